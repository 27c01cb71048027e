/- Numbers of any size, fractions, chances: contracts. Nothing is claimed here; no condition. -/
import Derived.Test.YtihoeimlkbjgmaaQf
set_option linter.unusedSimpArgs false
set_option linter.unusedVariables false
namespace Go.Proofs.Ytihoeimlkbjgmaa
open Go Go.Abs Go.Nm
attribute [local simp] xI_seq xI_region xI_ret regA regOps runOps opStep wantedA opA evo evos calleeA lk nif_eq putE paramsE valS val2 keepE restrict finA resA binA binInt ofConst ofConst1 loadA TK.isAgg asVar unA builtinA lenOpA lenA indexAddrA evPairs storeA AV.cellsOf pairsOf xI_nil binBool gcE evOpt runTr pairsOk pairOk sameVal AV.eqv lastOf lstAt eqvs boundA indexA regF twoOf prsOf memI runTrF selF runTr2 freshOp scals AV.scal xI_block xI_loopH xI_condM xI_exitM xI_skip xI_blk exitA List.getElem?_cons_zero List.getElem?_cons_succ List.getElem?_toArray List.getElem?_nil ileb_t ileb_f ieqb_t ieqb_f inB_t wrapA_id lp_read ieqb_self Nat.blt_eq cond_true cond_false ty2 ty3 ty4 ty9 ty22 ty25 ty41 ty58 ty76 ty90 ty92 ty97 ty99 ty101 ty104
def gmax (m x : Int × Int) : Int × Int := if 0 < cmpR (rq x) (rq m) then x else m
theorem FC_eqv (x : Int × Int) : eqvs (FC x) (FC x) = true := by simp [FC, eqvs, AV.eqv]
def greatF (l : List (Int × Int)) : Int × Int := (l.drop 1).foldl gmax (l.getD 0 (0, 1))
def valGreat (l : List (Int × Int)) : AV := if isSrc l = true then .tup [.agg (FC (greatF l)), .bool true] else frF
theorem isSrc_b {l : List (Int × Int)} (h : isSrc l = true) : isCh l = true ∧ 2 ≤ l.length := by
  rw [isSrc_eq] at h
  simp only [Bool.and_eq_true, Bool.or_eq_true, decide_eq_true_eq] at h
  exact ⟨h.1, by omega⟩
theorem vfl_get {l : List (Int × Int)} (hv : vfl l = true) {i : Nat} (h : i < l.length) : vfr l[i].1 l[i].2 = true := by
  simp only [vfl, List.all_eq_true] at hv
  exact hv _ (List.getElem_mem h)

noncomputable def b24 : Code := Try.f24.body.getD .skip
noncomputable def B24_0 : Code := (bodyC (bodyC (sndC (fstC (sndC (sndC (sndC b24)))))))
noncomputable def K24_0 : List It := .lp B24_0 :: .blk 0 :: .code (sndC (sndC (sndC (sndC b24)))) :: []
theorem xl24_0 {fi : FI} {env : Env} {σ : St} : exI TT fi K24_0 env σ = exI TT fi (.code B24_0 :: K24_0) env σ := by unfold K24_0; exact xI_lp
noncomputable def R24_0_0 : List It := .code (sndC (sndC (sndC (sndC b24)))) :: []
theorem eK24_0_0 : exitA 0 K24_0 = some R24_0_0 := rfl
set_option maxHeartbeats 4000000 in
theorem s24k (n i : Nat) (cells x y : List AV) (z : Int) (σ : St) (hi : i < n) (l1 : cellsAt σ (.lp cells (i * 2)) 2 = some x) (l2 : cellsAt σ (.ptr 1 0) 2 = some y) (c1 : callI TT 69 [.agg x, .agg y] σ = some (.int .i64 z, σ)) (hy : eqvs y y = true) (hz : z ≤ 0) (hw : wrapA .i64 ((i : Int) + 1) = (i : Int) + 1) :
    exI TT (FI.of Try.f24 (TT.an 24)) K24_0 [(0, .lst n cells), (2, .ptr 0 0), (4, .ptr 1 0), (5, .int .i64 i)] σ = exI TT (FI.of Try.f24 (TT.an 24)) K24_0 [(0, .lst n cells), (2, .ptr 0 0), (4, .ptr 1 0), (5, .int .i64 ((i : Int) + 1))] σ := by
  rw [fi24]
  conv => lhs; rw [xl24_0]
  simp only [B24_0, b24, Try.f24, Option.getD, fstC, sndC, bodyC, thnC, elsC]
  simp (maxSteps := 1000000) (disch := omega) [eK24_0_0, getCells, takeN, dropN, fieldAddrA, allOne, AV.one, n_push, putN, overN, blt_dec, buildA, sizesOf, fillA, putCells, List.take_succ_cons, List.take_zero, List.drop_succ_cons, List.drop_zero, List.nil_append, List.cons_append, List.length_cons, List.length_nil, eqvs_dgs, hi, l1, l2, c1, hy, hz, hw]
set_option maxHeartbeats 4000000 in
theorem s24t (n i : Nat) (cells x y : List AV) (z : Int) (σ σ1 : St) (hi : i < n) (l1 : cellsAt σ (.lp cells (i * 2)) 2 = some x) (l2 : cellsAt σ (.ptr 1 0) 2 = some y) (c1 : callI TT 69 [.agg x, .agg y] σ = some (.int .i64 z, σ)) (hy : eqvs y y = true) (hz : 0 < z) (hx : x.length = 2) (s1 : storeCellsA σ 1 0 x = some σ1) (hw : wrapA .i64 ((i : Int) + 1) = (i : Int) + 1) :
    exI TT (FI.of Try.f24 (TT.an 24)) K24_0 [(0, .lst n cells), (2, .ptr 0 0), (4, .ptr 1 0), (5, .int .i64 i)] σ = exI TT (FI.of Try.f24 (TT.an 24)) K24_0 [(0, .lst n cells), (2, .ptr 0 0), (4, .ptr 1 0), (5, .int .i64 ((i : Int) + 1))] σ1 := by
  rw [fi24]
  conv => lhs; rw [xl24_0]
  simp only [B24_0, b24, Try.f24, Option.getD, fstC, sndC, bodyC, thnC, elsC]
  simp (maxSteps := 1000000) (disch := omega) [eK24_0_0, getCells, takeN, dropN, fieldAddrA, allOne, AV.one, n_push, putN, overN, blt_dec, buildA, sizesOf, fillA, putCells, List.take_succ_cons, List.take_zero, List.drop_succ_cons, List.drop_zero, List.nil_append, List.cons_append, List.length_cons, List.length_nil, eqvs_dgs, hi, l1, l2, c1, hy, hz, hx, s1, hw]
set_option maxHeartbeats 4000000 in
theorem e24 (n : Nat) (cells y : List AV) (σ σ1 : St) (l2 : cellsAt σ (.ptr 1 0) 2 = some y) (hy : y.length = 2) (s1 : storeCellsA σ 0 0 y = some σ1) (l3 : cellsAt σ1 (.ptr 0 0) 2 = some y) :
    exI TT (FI.of Try.f24 (TT.an 24)) K24_0 [(0, .lst n cells), (2, .ptr 0 0), (4, .ptr 1 0), (5, .int .i64 n)] σ = some (.tup [.agg y, .bool true], σ1) := by
  rw [fi24]
  conv => lhs; rw [xl24_0]
  simp only [B24_0, b24, Try.f24, Option.getD, fstC, sndC, bodyC, thnC, elsC]
  simp (maxSteps := 1000000) (disch := omega) [eK24_0_0, cellsAt, getCells, takeN, dropN, fieldAddrA, allOne, AV.one, n_push, storeCellsA, putN, overN, St.push, St.get, St.set, hget, hset, blt_dec, buildA, sizesOf, fillA, putCells, List.take_succ_cons, List.take_zero, List.drop_succ_cons, List.drop_zero, List.nil_append, List.cons_append, List.length_cons, List.length_nil, eqvs_dgs]
  simp only [R24_0_0, b24, Try.f24, Option.getD, fstC, sndC, bodyC, thnC, elsC]
  simp (maxSteps := 1000000) (disch := omega) [eK24_0_0, getCells, takeN, dropN, fieldAddrA, allOne, AV.one, n_push, putN, overN, blt_dec, buildA, sizesOf, fillA, putCells, List.take_succ_cons, List.take_zero, List.drop_succ_cons, List.drop_zero, List.nil_append, List.cons_append, List.length_cons, List.length_nil, eqvs_dgs, l2, hy, s1, l3]
set_option maxHeartbeats 4000000 in
theorem b24t (n : Nat) (cells x : List AV) (k : Int) (σ0 σ1 σ2 : St) (h1 : (⟨[], 0⟩ : St).push ⟨[.int .i64 0, .int .i64 0], 2, false⟩ = σ0) (hn : σ0.n = 1) (c1 : callI TT 57 [.lst n cells] σ0 = some (.int .i64 k, σ0)) (hk : ¬ k = 0) (hi : 0 < n) (l1 : cellsAt σ0 (.lp cells 0) 2 = some x) (h2 : σ0.push ⟨[.int .i64 0, .int .i64 0], 2, false⟩ = σ1) (hx : x.length = 2) (s1 : storeCellsA σ1 1 0 x = some σ2) :
    exI TT (FI.of Try.f24 (TT.an 24)) [.code b24] (paramsE 0 [.lst n cells]) ⟨[], 0⟩ = exI TT (FI.of Try.f24 (TT.an 24)) K24_0 [(0, .lst n cells), (2, .ptr 0 0), (4, .ptr 1 0), (5, .int .i64 1)] σ2 := by
  rw [fi24]
  simp only [b24, Try.f24, Option.getD, fstC, sndC, bodyC, thnC, elsC]
  simp (maxSteps := 1000000) (disch := omega) [eK24_0_0, getCells, takeN, dropN, fieldAddrA, allOne, AV.one, n_push, putN, overN, blt_dec, buildA, sizesOf, fillA, putCells, List.take_succ_cons, List.take_zero, List.drop_succ_cons, List.drop_zero, List.nil_append, List.cons_append, List.length_cons, List.length_nil, eqvs_dgs, h1, hn, c1, hk, hi, l1, h2, hx, s1]
  rfl
set_option maxHeartbeats 4000000 in
theorem k24f (n : Nat) (cells : List AV) (c1 : ∀ σ, callI TT 57 [.lst n cells] σ = some (.int .i64 0, σ)) :
    ∃ σ', exI TT (FI.of Try.f24 (TT.an 24)) [.code (Try.f24.body.getD .skip)] (paramsE 0 [.lst n cells]) ⟨[], 0⟩ = some (.tup [.agg [.int .i64 0, .int .i64 0], .bool false], σ') := by
  refine ex1 ?_
  rw [fi24]
  simp only [Try.f24, Option.getD]
  simp (maxSteps := 1000000) (disch := omega) [eK24_0_0, cellsAt, getCells, takeN, dropN, fieldAddrA, allOne, AV.one, n_push, storeCellsA, putN, overN, St.push, St.get, St.set, hget, hset, blt_dec, buildA, sizesOf, fillA, putCells, List.take_succ_cons, List.take_zero, List.drop_succ_cons, List.drop_zero, List.nil_append, List.cons_append, List.length_cons, List.length_nil, eqvs_dgs, c1]
theorem l24 (l : List (Int × Int)) (hv : vfl l = true) (hs : l.length ≤ 1000000) : ∀ (m i : Nat) (σ : St) (y : Int × Int), i + m = l.length → vfr y.1 y.2 = true → Bx σ 1 (FC y) → (∃ z, Bx σ 0 z ∧ z.length = 2) →
    ∃ σ', exI TT (FI.of Try.f24 (TT.an 24)) K24_0 [(0, FS l), (2, .ptr 0 0), (4, .ptr 1 0), (5, .int .i64 i)] σ = some (.tup [.agg (FC ((l.drop i).foldl gmax y)), .bool true], σ') := by
  intro m
  induction m with
  | zero =>
    intro i σ y hi hy hb hz
    obtain rfl : i = l.length := by omega
    obtain ⟨z, hz, hzl⟩ := hz
    obtain ⟨σ1, a1, a2, a3⟩ := hz.st (ws := FC y) (by rw [hzl]; rfl) (FC_one _)
    rw [List.drop_of_length_le (Nat.le_refl _)]
    exact ⟨σ1, e24 l.length (flat FC l) (FC y) σ σ1 (hb.rd rfl) rfl a1 (a2.rd rfl)⟩
  | succ m ih =>
    intro i σ y hi hy hb hz
    have hil : i < l.length := by omega
    have hvi := vfl_get hv hil
    have hi1 : ((i + 1 : Nat) : Int) = (i : Int) + 1 := by omega
    have hw : wrapA .i64 ((i : Int) + 1) = (i : Int) + 1 := wrapA_id (by omega) (by omega)
    have c1 := v69 hvi hy σ [.agg (FC l[i]), .agg (FC y)] rfl
    rw [List.drop_eq_getElem_cons hil, List.foldl_cons]
    by_cases hc : 0 < cmpR (rq l[i]) (rq y)
    · obtain ⟨z, hz, hzl⟩ := hz
      obtain ⟨σ1, a1, a2, a3⟩ := hb.st (ws := FC l[i]) rfl (FC_one _)
      obtain ⟨σ', k1⟩ := ih (i + 1) σ1 l[i] (by omega) hvi a2 ⟨z, hz.but (by decide) a3, hzl⟩
      rw [hi1] at k1
      refine ⟨σ', ?_⟩
      rw [show gmax y l[i] = l[i] from if_pos hc, ← k1]
      exact s24t l.length i (flat FC l) (FC l[i]) (FC y) _ σ σ1 hil (FS_get hil σ) (hb.rd rfl) c1 (FC_eqv _) hc rfl a1 hw
    · obtain ⟨σ', k1⟩ := ih (i + 1) σ y (by omega) hy hb hz
      rw [hi1] at k1
      refine ⟨σ', ?_⟩
      rw [show gmax y l[i] = y from if_neg hc, ← k1]
      exact s24k l.length i (flat FC l) (FC l[i]) (FC y) _ σ hil (FS_get hil σ) (hb.rd rfl) c1 (FC_eqv _) (Int.not_lt.1 hc) hw
theorem r24 (l : List (Int × Int)) (hs : l.length ≤ 10000000) : FnV TT 24 [FS l] (valGreat l) := by
  have c1 := fun σ : St => r57 l hs σ [FS l] rfl
  unfold valGreat
  by_cases h : isSrc l = true
  · rw [if_pos h]
    obtain ⟨h1, h2⟩ := isSrc_b h
    obtain ⟨a1, a2, a3, _, _⟩ := isCh_b h1
    have h0 : 0 < l.length := by omega
    have hb0 : Bx ((⟨[], 0⟩ : St).push ⟨[.int .i64 0, .int .i64 0], 2, false⟩) 0 [.int .i64 0, .int .i64 0] := Bx.push
    obtain ⟨σ2, d1, d2, d3, d4⟩ := new_box (σ := (⟨[], 0⟩ : St).push ⟨[.int .i64 0, .int .i64 0], 2, false⟩) (z := [.int .i64 0, .int .i64 0]) (x := FC l[0]) (m := 2) rfl rfl
    obtain ⟨σ', k1⟩ := l24 l a3 (by omega) (l.length - 1) 1 σ2 l[0] (by omega) (vfl_get a3 h0) d2 ⟨_, hb0.old d3, rfl⟩
    have hg0 : l.getD 0 (0, 1) = l[0] := getD_of h0
    have hk : ¬ ((srcBits l : Nat) : Int) = 0 := by unfold isSrc at h; simp at h; omega
    rw [greatF, hg0]
    exact FnV.mk (c := b24) fn24 rfl md24 ⟨σ', (b24t l.length (flat FC l) (FC l[0]) _ _ _ σ2 rfl rfl (c1 _) hk h0 (FS_get h0 _) rfl rfl d1).trans k1⟩ (fun _ => rfl) rfl
  · rw [if_neg h]
    have hk : srcBits l = 0 := by unfold isSrc at h; simp at h; omega
    rw [hk] at c1
    exact FnV.mk fn24 rfl md24 (k24f _ _ c1) (fun _ => rfl) rfl

set_option maxHeartbeats 4000000 in
theorem k71 (x1 x2 y1 y2 : Int) (s t : List AV) (z : Int) (c1 : ∀ σ, callI TT 72 [.agg [.int .i64 x1, .int .i64 x2]] σ = some (.agg s, σ)) (c2 : ∀ σ, callI TT 72 [.agg [.int .i64 y1, .int .i64 y2]] σ = some (.agg t, σ)) (c3 : ∀ σ, callI TT 73 [.agg s, .agg t] σ = some (.int .i64 z, σ)) (hs : eqvs s s = true) (ht : eqvs t t = true) :
    ∃ σ', exI TT (FI.of Try.f71 (TT.an 71)) [.code (Try.f71.body.getD .skip)] (paramsE 0 [.agg [.int .i64 x1, .int .i64 x2], .agg [.int .i64 y1, .int .i64 y2]]) ⟨[], 0⟩ = some (.int .i64 z, σ') := by
  refine ex1 ?_
  rw [fi71]
  simp only [Try.f71, Option.getD]
  simp (maxSteps := 1000000) (disch := omega) [cellsAt, getCells, takeN, dropN, fieldAddrA, allOne, AV.one, n_push, storeCellsA, putN, overN, St.push, St.get, St.set, hget, hset, blt_dec, buildA, sizesOf, fillA, putCells, List.take_succ_cons, List.take_zero, List.drop_succ_cons, List.drop_zero, List.nil_append, List.cons_append, List.length_cons, List.length_nil, eqvs_dgs, c1, c2, c3, hs, ht]
theorem r71 {x y : Int × Int} (hx : vfr x.1 x.2 = true) (hy : vfr y.1 y.2 = true) : FnV TT 71 [.agg (FC x), .agg (FC y)] (.int .i64 (cmpR (rq x) (rq y))) := by
  exact FnV.mk fn71 rfl md71 (k71 x.1 x.2 y.1 y.2 (RC (rq x)) (RC (rq y)) _ (fun σ => (r72 hx).pure σ rfl rfl) (fun σ => (r72 hy).pure σ rfl rfl) (fun σ => r73 (rq_bd hx) (rq_bd hy) (by decide) σ _ rfl) (RC_eqv _) (RC_eqv _)) (fun _ => rfl) rfl

noncomputable def b70 : Code := Try.f70.body.getD .skip
noncomputable def B70_0 : Code := (bodyC (bodyC (sndC (fstC (sndC (sndC (sndC b70)))))))
noncomputable def K70_0 : List It := .lp B70_0 :: .blk 0 :: .code (sndC (sndC (sndC (sndC b70)))) :: []
theorem xl70_0 {fi : FI} {env : Env} {σ : St} : exI TT fi K70_0 env σ = exI TT fi (.code B70_0 :: K70_0) env σ := by unfold K70_0; exact xI_lp
noncomputable def R70_0_0 : List It := .code (sndC (sndC (sndC (sndC b70)))) :: []
theorem eK70_0_0 : exitA 0 K70_0 = some R70_0_0 := rfl
set_option maxHeartbeats 4000000 in
theorem s70k (n i a b : Nat) (cells x y : List AV) (z : Int) (σ : St) (hi : i < n) (l1 : cellsAt σ (.lp cells (i * 2)) 2 = some x) (l2 : cellsAt σ (.ptr b 0) 2 = some y) (c1 : callI TT 71 [.agg x, .agg y] σ = some (.int .i64 z, σ)) (hy : eqvs y y = true) (hz : z ≤ 0) (hw : wrapA .i64 ((i : Int) + 1) = (i : Int) + 1) :
    exI TT (FI.of Try.f70 (TT.an 70)) K70_0 [(0, .lst n cells), (1, .fn 71 [] []), (4, .ptr a 0), (5, .ptr b 0), (6, .int .i64 i)] σ = exI TT (FI.of Try.f70 (TT.an 70)) K70_0 [(0, .lst n cells), (1, .fn 71 [] []), (4, .ptr a 0), (5, .ptr b 0), (6, .int .i64 ((i : Int) + 1))] σ := by
  rw [fi70]
  conv => lhs; rw [xl70_0]
  simp only [B70_0, b70, Try.f70, Option.getD, fstC, sndC, bodyC, thnC, elsC]
  simp (maxSteps := 1000000) (disch := omega) [eK70_0_0, getCells, takeN, dropN, fieldAddrA, allOne, AV.one, n_push, putN, overN, blt_dec, buildA, sizesOf, fillA, putCells, List.take_succ_cons, List.take_zero, List.drop_succ_cons, List.drop_zero, List.nil_append, List.cons_append, List.length_cons, List.length_nil, eqvs_dgs, List.append_nil, hi, l1, l2, c1, hy, hz, hw]
set_option maxHeartbeats 4000000 in
theorem s70t (n i a b : Nat) (cells x y : List AV) (z : Int) (σ σ1 : St) (hi : i < n) (l1 : cellsAt σ (.lp cells (i * 2)) 2 = some x) (l2 : cellsAt σ (.ptr b 0) 2 = some y) (c1 : callI TT 71 [.agg x, .agg y] σ = some (.int .i64 z, σ)) (hy : eqvs y y = true) (hz : 0 < z) (hx : x.length = 2) (s1 : storeCellsA σ b 0 x = some σ1) (hw : wrapA .i64 ((i : Int) + 1) = (i : Int) + 1) :
    exI TT (FI.of Try.f70 (TT.an 70)) K70_0 [(0, .lst n cells), (1, .fn 71 [] []), (4, .ptr a 0), (5, .ptr b 0), (6, .int .i64 i)] σ = exI TT (FI.of Try.f70 (TT.an 70)) K70_0 [(0, .lst n cells), (1, .fn 71 [] []), (4, .ptr a 0), (5, .ptr b 0), (6, .int .i64 ((i : Int) + 1))] σ1 := by
  rw [fi70]
  conv => lhs; rw [xl70_0]
  simp only [B70_0, b70, Try.f70, Option.getD, fstC, sndC, bodyC, thnC, elsC]
  simp (maxSteps := 1000000) (disch := omega) [eK70_0_0, getCells, takeN, dropN, fieldAddrA, allOne, AV.one, n_push, putN, overN, blt_dec, buildA, sizesOf, fillA, putCells, List.take_succ_cons, List.take_zero, List.drop_succ_cons, List.drop_zero, List.nil_append, List.cons_append, List.length_cons, List.length_nil, eqvs_dgs, List.append_nil, hi, l1, l2, c1, hy, hz, hx, s1, hw]
set_option maxHeartbeats 4000000 in
theorem e70 (n a b : Nat) (cells y : List AV) (σ σ1 : St) (l2 : cellsAt σ (.ptr b 0) 2 = some y) (hy : y.length = 2) (s1 : storeCellsA σ a 0 y = some σ1) (l3 : cellsAt σ1 (.ptr a 0) 2 = some y) :
    exI TT (FI.of Try.f70 (TT.an 70)) K70_0 [(0, .lst n cells), (1, .fn 71 [] []), (4, .ptr a 0), (5, .ptr b 0), (6, .int .i64 n)] σ = some (.agg y, σ1) := by
  rw [fi70]
  conv => lhs; rw [xl70_0]
  simp only [B70_0, b70, Try.f70, Option.getD, fstC, sndC, bodyC, thnC, elsC]
  simp (maxSteps := 1000000) (disch := omega) [eK70_0_0, cellsAt, getCells, takeN, dropN, fieldAddrA, allOne, AV.one, n_push, storeCellsA, putN, overN, St.push, St.get, St.set, hget, hset, blt_dec, buildA, sizesOf, fillA, putCells, List.take_succ_cons, List.take_zero, List.drop_succ_cons, List.drop_zero, List.nil_append, List.cons_append, List.length_cons, List.length_nil, eqvs_dgs]
  simp only [R70_0_0, b70, Try.f70, Option.getD, fstC, sndC, bodyC, thnC, elsC]
  simp (maxSteps := 1000000) (disch := omega) [eK70_0_0, getCells, takeN, dropN, fieldAddrA, allOne, AV.one, n_push, putN, overN, blt_dec, buildA, sizesOf, fillA, putCells, List.take_succ_cons, List.take_zero, List.drop_succ_cons, List.drop_zero, List.nil_append, List.cons_append, List.length_cons, List.length_nil, eqvs_dgs, l2, hy, s1, l3]
set_option maxHeartbeats 4000000 in
theorem b70t (n : Nat) (cells x : List AV) (σ σ0 σ1 σ2 : St) (h1 : σ.push ⟨[.int .i64 0, .int .i64 0], 2, false⟩ = σ0) (hn : σ0.n = σ.n + 1) (hi : 1 ≤ n) (l1 : cellsAt σ0 (.lp cells 0) 2 = some x) (h2 : σ0.push ⟨[.int .i64 0, .int .i64 0], 2, false⟩ = σ1) (hx : x.length = 2) (s1 : storeCellsA σ1 (σ.n + 1) 0 x = some σ2) :
    exI TT (FI.of Try.f70 (TT.an 70)) [.code b70] (paramsE 0 [.lst n cells, .fn 71 [] []]) σ = exI TT (FI.of Try.f70 (TT.an 70)) K70_0 [(0, .lst n cells), (1, .fn 71 [] []), (4, .ptr σ.n 0), (5, .ptr (σ.n + 1) 0), (6, .int .i64 1)] σ2 := by
  rw [fi70]
  simp only [b70, Try.f70, Option.getD, fstC, sndC, bodyC, thnC, elsC]
  simp (maxSteps := 1000000) (disch := omega) [eK70_0_0, getCells, takeN, dropN, fieldAddrA, allOne, AV.one, n_push, putN, overN, blt_dec, buildA, sizesOf, fillA, putCells, List.take_succ_cons, List.take_zero, List.drop_succ_cons, List.drop_zero, List.nil_append, List.cons_append, List.length_cons, List.length_nil, eqvs_dgs, h1, hn, hi, l1, h2, hx, s1]
  rfl
theorem l70 (l : List (Int × Int)) (hv : vfl l = true) (hs : l.length ≤ 1000000) (N a b : Nat) (hab : a ≠ b) (ha : N ≤ a) (hb0 : N ≤ b) : ∀ (m i : Nat) (σ : St) (y : Int × Int), i + m = l.length → vfr y.1 y.2 = true → Bx σ b (FC y) → (∃ z, Bx σ a z ∧ z.length = 2) →
    ∃ σ', exI TT (FI.of Try.f70 (TT.an 70)) K70_0 [(0, FS l), (1, .fn 71 [] []), (4, .ptr a 0), (5, .ptr b 0), (6, .int .i64 i)] σ = some (.agg (FC ((l.drop i).foldl gmax y)), σ') ∧ σ'.n = σ.n ∧ ∀ c, c < N → σ'.get c = σ.get c := by
  intro m
  induction m with
  | zero =>
    intro i σ y hi hy hb hz
    obtain rfl : i = l.length := by omega
    obtain ⟨z, hz, hzl⟩ := hz
    obtain ⟨σ1, a1, a2, a3⟩ := hz.st (ws := FC y) (by rw [hzl]; rfl) (FC_one _)
    rw [List.drop_of_length_le (Nat.le_refl _)]
    exact ⟨σ1, e70 l.length a b (flat FC l) (FC y) σ σ1 (hb.rd rfl) rfl a1 (a2.rd rfl), a3.1, fun c hc => a3.2 c (by omega)⟩
  | succ m ih =>
    intro i σ y hi hy hb hz
    have hil : i < l.length := by omega
    have hvi := vfl_get hv hil
    have hi1 : ((i + 1 : Nat) : Int) = (i : Int) + 1 := by omega
    have hw : wrapA .i64 ((i : Int) + 1) = (i : Int) + 1 := wrapA_id (by omega) (by omega)
    have c1 := r71 hvi hy σ [.agg (FC l[i]), .agg (FC y)] rfl
    rw [List.drop_eq_getElem_cons hil, List.foldl_cons]
    by_cases hc : 0 < cmpR (rq l[i]) (rq y)
    · obtain ⟨z, hz, hzl⟩ := hz
      obtain ⟨σ1, a1, a2, a3⟩ := hb.st (ws := FC l[i]) rfl (FC_one _)
      obtain ⟨σ', k1, k2, k3⟩ := ih (i + 1) σ1 l[i] (by omega) hvi a2 ⟨z, hz.but hab a3, hzl⟩
      rw [hi1] at k1
      refine ⟨σ', ?_, k2.trans a3.1, fun c hc => (k3 c hc).trans (a3.2 c (by omega))⟩
      rw [show gmax y l[i] = l[i] from if_pos hc, ← k1]
      exact s70t l.length i a b (flat FC l) (FC l[i]) (FC y) _ σ σ1 hil (FS_get hil σ) (hb.rd rfl) c1 (FC_eqv _) hc rfl a1 hw
    · obtain ⟨σ', k1, k2⟩ := ih (i + 1) σ y (by omega) hy hb hz
      rw [hi1] at k1
      refine ⟨σ', ?_, k2⟩
      rw [show gmax y l[i] = y from if_neg hc, ← k1]
      exact s70k l.length i a b (flat FC l) (FC l[i]) (FC y) _ σ hil (FS_get hil σ) (hb.rd rfl) c1 (FC_eqv _) (Int.not_lt.1 hc) hw
theorem r70 (l : List (Int × Int)) (hv : vfl l = true) (h0 : 1 ≤ l.length) (hs : l.length ≤ 1000000) (σ : St) : ∃ σ', callI TT 70 [FS l, .fn 71 [] []] σ = some (.agg (FC (greatF l)), σ') ∧ Old σ σ' := by
  have hb0 : Bx (σ.push ⟨[.int .i64 0, .int .i64 0], 2, false⟩) σ.n [.int .i64 0, .int .i64 0] := Bx.push
  obtain ⟨σ2, d1, d2, d3, d4⟩ := new_box (σ := σ.push ⟨[.int .i64 0, .int .i64 0], 2, false⟩) (z := [.int .i64 0, .int .i64 0]) (x := FC l[0]) (m := 2) rfl rfl
  obtain ⟨σ', k1, k2, k3⟩ := l70 l hv hs σ.n σ.n (σ.n + 1) (by omega) (Nat.le_refl _) (by omega) (l.length - 1) 1 σ2 l[0] (by omega) (vfl_get hv h0) d2 ⟨_, hb0.old d3, rfl⟩
  have hg0 : l.getD 0 (0, 1) = l[0] := getD_of h0
  refine ⟨σ', ?_, ?_, fun c hc => ?_⟩
  · rw [greatF, hg0, ← k1, cI_0 (c := b70) fn70 rfl md70]
    exact b70t l.length (flat FC l) (FC l[0]) σ _ _ σ2 rfl rfl h0 (FS_get h0 _) rfl rfl d1
  · rw [k2, d4]; exact Nat.le_trans (Nat.le_succ _) (Nat.le_succ _)
  · rw [k3 c hc, d3.2 c (by show c < σ.n + 1; omega)]
    exact get_push_lt hc

set_option maxHeartbeats 4000000 in
theorem k25f (n : Nat) (cells : List AV) (c1 : ∀ σ, callI TT 17 [.lst n cells] σ = some (.bool false, σ)) :
    ∃ σ', exI TT (FI.of Try.f25 (TT.an 25)) [.code (Try.f25.body.getD .skip)] (paramsE 0 [.lst n cells]) ⟨[], 0⟩ = some (.tup [.agg [.int .i64 0, .int .i64 0], .bool false], σ') := by
  refine ex1 ?_
  rw [fi25]
  simp only [Try.f25, Option.getD]
  simp (maxSteps := 1000000) (disch := omega) [cellsAt, getCells, takeN, dropN, fieldAddrA, allOne, AV.one, n_push, storeCellsA, putN, overN, St.push, St.get, St.set, hget, hset, blt_dec, buildA, sizesOf, fillA, putCells, List.take_succ_cons, List.take_zero, List.drop_succ_cons, List.drop_zero, List.nil_append, List.cons_append, List.length_cons, List.length_nil, eqvs_dgs, c1]
set_option maxHeartbeats 4000000 in
theorem k25t (n : Nat) (cells y : List AV) (σ0 σ1 σ2 : St) (h1 : (⟨[], 0⟩ : St).push ⟨[.int .i64 0, .int .i64 0], 2, false⟩ = σ0) (c1 : callI TT 17 [.lst n cells] σ0 = some (.bool true, σ0)) (c2 : callI TT 70 [.lst n cells, .fn 71 [] []] σ0 = some (.agg y, σ1)) (hy : y.length = 2) (s1 : storeCellsA σ1 0 0 y = some σ2) (l1 : cellsAt σ2 (.ptr 0 0) 2 = some y) :
    ∃ σ', exI TT (FI.of Try.f25 (TT.an 25)) [.code (Try.f25.body.getD .skip)] (paramsE 0 [.lst n cells]) ⟨[], 0⟩ = some (.tup [.agg y, .bool true], σ') := by
  refine ex1 ?_
  rw [fi25]
  simp only [Try.f25, Option.getD]
  simp (maxSteps := 1000000) (disch := omega) [getCells, takeN, dropN, fieldAddrA, allOne, AV.one, n_push, putN, overN, blt_dec, buildA, sizesOf, fillA, putCells, List.take_succ_cons, List.take_zero, List.drop_succ_cons, List.drop_zero, List.nil_append, List.cons_append, List.length_cons, List.length_nil, eqvs_dgs, h1, c1, c2, hy, s1, l1]
theorem r25 (l : List (Int × Int)) (hs : l.length ≤ 10000000) : FnV TT 25 [FS l] (valGreat l) := by
  have c1 := fun σ : St => r17 l hs σ [FS l] rfl
  unfold valGreat
  cases h : isSrc l with
  | true =>
    rw [h] at c1
    obtain ⟨h1, h2⟩ := isSrc_b h
    obtain ⟨a1, a2, a3, _, _⟩ := isCh_b h1
    have hb0 : Bx ((⟨[], 0⟩ : St).push ⟨[.int .i64 0, .int .i64 0], 2, false⟩) 0 [.int .i64 0, .int .i64 0] := Bx.push
    obtain ⟨σ1, c2, hold⟩ := r70 l a3 a1 (by omega) ((⟨[], 0⟩ : St).push ⟨[.int .i64 0, .int .i64 0], 2, false⟩)
    obtain ⟨σ2, d1, d2, d3⟩ := (hb0.old hold).st (ws := FC (greatF l)) rfl (FC_one _)
    exact FnV.mk fn25 rfl md25 (k25t l.length (flat FC l) (FC (greatF l)) _ σ1 σ2 rfl (c1 _) c2 rfl d1 (d2.rd rfl)) (fun _ => rfl) rfl
  | false =>
    rw [h] at c1
    exact FnV.mk fn25 rfl md25 (k25f _ _ c1) (fun _ => rfl) rfl
theorem isR5 (l : List (Int × Int)) : ∃ a b c, valGreat l = .tup [.agg [.int .i64 a, .int .i64 b], .bool c] := by
  unfold valGreat
  split <;> exact ⟨_, _, _, rfl⟩

set_option maxHeartbeats 4000000 in
theorem z5_1 (n1 : Nat) (cells1 : List AV) (z1 : ∀ σ, callI TT 14 [.lst n1 cells1, .int .i64 1048576] σ = some (.int .i64 (-1), σ)) :
    ∃ σ', exI TT (FI.of Try.f5 (TT.an 5)) [.code (Try.f5.body.getD .skip)] (paramsE 0 [.lst n1 cells1]) ⟨[], 0⟩ = some (.bool true, σ') := by
  refine ex1 ?_
  rw [fi5]
  simp only [Try.f5, Option.getD]
  simp (maxSteps := 1000000) (disch := omega) [cellsAt, getCells, takeN, dropN, fieldAddrA, allOne, AV.one, n_push, storeCellsA, putN, overN, St.push, St.get, St.set, hget, hset, blt_dec, buildA, sizesOf, fillA, putCells, List.take_succ_cons, List.take_zero, List.drop_succ_cons, List.drop_zero, List.nil_append, List.cons_append, List.length_cons, List.length_nil, eqvs_dgs, z1]
set_option maxHeartbeats 4000000 in
theorem k5 (n1 : Nat) (cells1 : List AV) (k1 : Int) (a b : Int) (c : Bool) (z1 : ∀ σ, callI TT 14 [.lst n1 cells1, .int .i64 1048576] σ = some (.int .i64 k1, σ)) (hk1 : 0 ≤ k1) (t1 : ∀ σ, callI TT 16 [.lst n1 cells1] σ = some (.lst n1 cells1, σ)) (e1 : ∀ σ, callI TT 18 [.lst n1 cells1, .lst n1 cells1] σ = some (.bool true, σ)) (cS : ∀ σ, callI TT 24 [.lst n1 cells1] σ = some (.tup [.agg [.int .i64 a, .int .i64 b], .bool c], σ)) (cI : ∀ σ, callI TT 25 [.lst n1 cells1] σ = some (.tup [.agg [.int .i64 a, .int .i64 b], .bool c], σ)) (cE : ∀ σ, callI TT 26 [.agg [.int .i64 a, .int .i64 b], .agg [.int .i64 a, .int .i64 b]] σ = some (.bool true, σ)) :
    ∃ σ', exI TT (FI.of Try.f5 (TT.an 5)) [.code (Try.f5.body.getD .skip)] (paramsE 0 [.lst n1 cells1]) ⟨[], 0⟩ = some (.bool true, σ') := by
  refine ex1 ?_
  rw [fi5]
  simp only [Try.f5, Option.getD]
  cases c <;>
  simp (maxSteps := 1000000) (disch := omega) [cellsAt, getCells, takeN, dropN, fieldAddrA, allOne, AV.one, n_push, storeCellsA, putN, overN, St.push, St.get, St.set, hget, hset, blt_dec, buildA, sizesOf, fillA, putCells, List.take_succ_cons, List.take_zero, List.drop_succ_cons, List.drop_zero, List.nil_append, List.cons_append, List.length_cons, List.length_nil, eqvs_dgs, z1, hk1, t1, e1, cS, cI, cE]
theorem w5 (l1 : List (Int × Int)) (hl1 : l1.length ≤ maxLen) : FnV TT 5 [FS l1] (.bool true) := by
  have hm1 : l1.length ≤ 9223372036854775807 := by unfold maxLen at hl1; omega
  have c1 := fun σ : St => r14 l1 (1048576) (Nat.le_refl _) hm1 σ [FS l1, .int .i64 ((1048576 : Nat) : Int)] rfl
  by_cases hb1 : (1048576) < l1.length
  · rw [if_pos hb1] at c1
    exact FnV.mk fn5 rfl md5 (z5_1 _ _   c1) (fun _ => rfl) rfl
  · rw [if_neg hb1] at c1
    have q1 : (((1048576 : Nat)) : Int) - (l1.length : Int) = (((1048576) - l1.length : Nat) : Int) := by omega
    rw [q1] at c1
    have hs1 : l1.length ≤ 1048576 := by omega
    have hz1 : l1.length ≤ 10000000 := by omega
    have hS := r24 l1 hz1
    have hI := r25 l1 hz1
    obtain ⟨a, b, c, hR⟩ := isR5 l1
    rw [hR] at hS hI
    exact FnV.mk fn5 rfl md5 (k5 _ _ _ _ _ _ c1 (by omega) (fun σ => (r16 l1 hz1).pure σ rfl rfl) (fun σ => r18 l1 hz1 σ [FS l1, FS l1] rfl) (fun σ => hS σ [FS l1] rfl) (fun σ => hI σ [FS l1] rfl) (fun σ => r26 a b σ [.agg [.int .i64 a, .int .i64 b], .agg [.int .i64 a, .int .i64 b]] rfl)) (fun _ => rfl) rfl

def sqQ (p : List Rat) (i : Nat) : Rat := p.getD i 0 * p.getD i 0
def colQ (p : List Rat) : Rat := sumI (sqQ p) p.length
def valCol (l : List (Int × Int)) : AV := if isSrc l = true then frA (colQ (l.map rq)) else frF
theorem isR7 (l : List (Int × Int)) : ∃ a b c, valCol l = .tup [.agg [.int .i64 a, .int .i64 b], .bool c] := by
  unfold valCol
  split
  · exact frA_is _
  · exact ⟨_, _, _, rfl⟩
def wsqs (p : List Wd) : Nat → List Wd
  | 0 => []
  | n + 1 => wsqs p n ++ [wmul (atW p n) (atW p n)]
theorem wsqs_len (p : List Wd) : ∀ n, (wsqs p n).length = n
  | 0 => rfl
  | n + 1 => by rw [wsqs, List.length_append, wsqs_len p n]; rfl
theorem wsqs_ok {k : Nat} {p : List Wd} (hp : ∀ x ∈ p, x.ok k) : ∀ n, n ≤ p.length → (∀ x ∈ wsqs p n, x.ok (k + k)) ∧ (wsqs p n).foldl (fun (x : Rat) w => x + w.q) 0 = sumI (sqQ (p.map Wd.q)) n
  | 0, _ => ⟨by simp [wsqs], rfl⟩
  | n + 1, h => by
    obtain ⟨h1, h2⟩ := wsqs_ok hp n (by omega)
    have hn : n < p.length := by omega
    obtain ⟨q1, o1⟩ := wmul_q (hp _ (List.getElem_mem hn)) (hp _ (List.getElem_mem hn))
    rw [wsqs, atW_of hn]
    refine ⟨?_, ?_⟩
    · intro x hx
      rcases List.mem_append.1 hx with hx | hx
      · exact h1 x hx
      · rw [List.mem_singleton.1 hx]; exact o1
    · have hg : (p.map Wd.q).getD n 0 = p[n].q := by rw [getD_of (by simpa using hn)]; simp
      rw [List.foldl_append, h2, sumI, sqQ, hg]
      simp [q1]
theorem colQ_bd {p : List Rat} {k : Nat} (hp : ∀ x ∈ p, Bd k x) : ∀ n, n ≤ p.length → Bd (2 + n * (2 * k + 1)) (sumI (sqQ p) n)
  | 0, _ => (show Bd 2 (0 : Rat) from ⟨by decide +kernel, by decide +kernel⟩).mono (by omega)
  | n + 1, hn => by
    have h1 : n < p.length := by omega
    rw [sumI, sqQ, getD_of h1]
    exact ((colQ_bd hp n (by omega)).add ((hp _ (List.getElem_mem h1)).mul (hp _ (List.getElem_mem h1)))).mono (by rw [Nat.add_mul]; omega)

noncomputable def b29 : Code := Try.f29.body.getD .skip
noncomputable def B29_0 : Code := (bodyC (bodyC (sndC (fstC (sndC (sndC (sndC b29)))))))
noncomputable def K29_0 : List It := .lp B29_0 :: .blk 0 :: .code (sndC (sndC (sndC (sndC b29)))) :: []
theorem xl29_0 {fi : FI} {env : Env} {σ : St} : exI TT fi K29_0 env σ = exI TT fi (.code B29_0 :: K29_0) env σ := by unfold K29_0; exact xI_lp
noncomputable def R29_0_0 : List It := .code (sndC (sndC (sndC (sndC b29)))) :: []
theorem eK29_0_0 : exitA 0 K29_0 = some R29_0_0 := rfl
set_option maxHeartbeats 4000000 in
theorem s29 (n i b m b2 m2 : Nat) (cells x w u : List AV) (σ σ1 σ2 : St) (hi : i < n) (l1 : cellsAt σ (.lp cells (i * 2)) 2 = some x) (c1 : callI TT 82 [.agg x] σ = some (.agg w, σ)) (c2 : callI TT 81 [.agg w, .agg w] σ = some (.agg u, σ)) (hw6 : eqvs w w = true) (hex : eqvs x x = true) (c3 : buildSliceA TT σ 101 1 [(0, .agg u)] = some (.sl σ.n 0 1 1, σ1)) (c4 : appendA TT σ1 101 101 (.sl b 0 m m) (.sl σ.n 0 1 1) = some (.sl b2 0 m2 m2, σ2)) (hw : wrapA .i64 ((i : Int) + 1) = (i : Int) + 1) :
    exI TT (FI.of Try.f29 (TT.an 29)) K29_0 [(0, .lst n cells), (2, .ptr 0 0), (4, .sl b 0 m m), (5, .int .i64 i)] σ = exI TT (FI.of Try.f29 (TT.an 29)) K29_0 [(0, .lst n cells), (2, .ptr 0 0), (4, .sl b2 0 m2 m2), (5, .int .i64 ((i : Int) + 1))] σ2 := by
  rw [fi29]
  conv => lhs; rw [xl29_0]
  simp only [B29_0, b29, Try.f29, Option.getD, fstC, sndC, bodyC, thnC, elsC]
  simp (maxSteps := 1000000) (disch := omega) [eK29_0_0, getCells, takeN, dropN, fieldAddrA, allOne, AV.one, n_push, putN, overN, blt_dec, buildA, sizesOf, fillA, putCells, List.take_succ_cons, List.take_zero, List.drop_succ_cons, List.drop_zero, List.nil_append, List.cons_append, List.length_cons, List.length_nil, eqvs_dgs, hi, l1, c1, c2, hw6, hex, c3, c4, hw]
set_option maxHeartbeats 4000000 in
theorem e29 (n b m : Nat) (cells s : List AV) (a_ b_ : Int) (c_ : Bool) (σ σ0 σ1 : St) (c1 : callI TT 83 [.sl b 0 m m] σ = some (.agg s, σ0)) (c2 : callI TT 75 [.agg s] σ0 = some (.tup [.agg [.int .i64 a_, .int .i64 b_], .bool c_], σ0)) (s1 : storeCellsA σ0 0 0 [.int .i64 a_, .int .i64 b_] = some σ1) (l4 : cellsAt σ1 (.ptr 0 0) 2 = some [.int .i64 a_, .int .i64 b_]) :
    exI TT (FI.of Try.f29 (TT.an 29)) K29_0 [(0, .lst n cells), (2, .ptr 0 0), (4, .sl b 0 m m), (5, .int .i64 n)] σ = some (.tup [.agg [.int .i64 a_, .int .i64 b_], .bool c_], σ1) := by
  rw [fi29]
  conv => lhs; rw [xl29_0]
  simp only [B29_0, b29, Try.f29, Option.getD, fstC, sndC, bodyC, thnC, elsC]
  simp (maxSteps := 1000000) (disch := omega) [eK29_0_0, cellsAt, getCells, takeN, dropN, fieldAddrA, allOne, AV.one, n_push, storeCellsA, putN, overN, St.push, St.get, St.set, hget, hset, blt_dec, buildA, sizesOf, fillA, putCells, List.take_succ_cons, List.take_zero, List.drop_succ_cons, List.drop_zero, List.nil_append, List.cons_append, List.length_cons, List.length_nil, eqvs_dgs]
  simp only [R29_0_0, b29, Try.f29, Option.getD, fstC, sndC, bodyC, thnC, elsC]
  simp (maxSteps := 1000000) (disch := omega) [eK29_0_0, getCells, takeN, dropN, fieldAddrA, allOne, AV.one, n_push, putN, overN, blt_dec, buildA, sizesOf, fillA, putCells, List.take_succ_cons, List.take_zero, List.drop_succ_cons, List.drop_zero, List.nil_append, List.cons_append, List.length_cons, List.length_nil, eqvs_dgs, c1, c2, s1, l4]
set_option maxHeartbeats 4000000 in
theorem b29t (n : Nat) (cells : List AV) (k : Int) (σ0 σ1 : St) (h1 : (⟨[], 0⟩ : St).push ⟨[.int .i64 0, .int .i64 0], 2, false⟩ = σ0) (c1 : callI TT 57 [.lst n cells] σ0 = some (.int .i64 k, σ0)) (hk : ¬ k = 0) (c2 : buildSliceA TT σ0 101 0 [] = some (.sl 1 0 0 0, σ1)) :
    exI TT (FI.of Try.f29 (TT.an 29)) [.code b29] (paramsE 0 [.lst n cells]) ⟨[], 0⟩ = exI TT (FI.of Try.f29 (TT.an 29)) K29_0 [(0, .lst n cells), (2, .ptr 0 0), (4, .sl 1 0 0 0), (5, .int .i64 0)] σ1 := by
  rw [fi29]
  simp only [b29, Try.f29, Option.getD, fstC, sndC, bodyC, thnC, elsC]
  simp (maxSteps := 1000000) (disch := omega) [eK29_0_0, getCells, takeN, dropN, fieldAddrA, allOne, AV.one, n_push, putN, overN, blt_dec, buildA, sizesOf, fillA, putCells, List.take_succ_cons, List.take_zero, List.drop_succ_cons, List.drop_zero, List.nil_append, List.cons_append, List.length_cons, List.length_nil, eqvs_dgs, h1, c1, hk, c2]
  rfl
set_option maxHeartbeats 4000000 in
theorem k29f (n : Nat) (cells : List AV) (c1 : ∀ σ, callI TT 57 [.lst n cells] σ = some (.int .i64 0, σ)) :
    ∃ σ', exI TT (FI.of Try.f29 (TT.an 29)) [.code (Try.f29.body.getD .skip)] (paramsE 0 [.lst n cells]) ⟨[], 0⟩ = some (.tup [.agg [.int .i64 0, .int .i64 0], .bool false], σ') := by
  refine ex1 ?_
  rw [fi29]
  simp only [Try.f29, Option.getD]
  simp (maxSteps := 1000000) (disch := omega) [eK29_0_0, cellsAt, getCells, takeN, dropN, fieldAddrA, allOne, AV.one, n_push, storeCellsA, putN, overN, St.push, St.get, St.set, hget, hset, blt_dec, buildA, sizesOf, fillA, putCells, List.take_succ_cons, List.take_zero, List.drop_succ_cons, List.drop_zero, List.nil_append, List.cons_append, List.length_cons, List.length_nil, eqvs_dgs, c1]
theorem l29 (l : List (Int × Int)) (hv : vfl l = true) (hs : l.length ≤ 16) : ∀ (m i b : Nat) (σ : St), i + m = l.length → 0 < b → RowE σ b 6 (flat WC (wsqs (l.map wof) i)) → (∃ z, Bx σ 0 z ∧ z.length = 2) →
    ∃ σ', exI TT (FI.of Try.f29 (TT.an 29)) K29_0 [(0, FS l), (2, .ptr 0 0), (4, .sl b 0 i i), (5, .int .i64 i)] σ = some (frA (colQ (l.map rq)), σ') := by
  have hll : (l.map wof).length = l.length := by simp
  intro m
  induction m with
  | zero =>
    intro i b σ hi hb0 hr hz
    obtain rfl : i = l.length := by omega
    obtain ⟨h1, h2⟩ := wsqs_ok (wof_ok hv) (l.map wof).length (Nat.le_refl _)
    rw [hll] at h1 h2
    have hs1 := r83 (wsqs (l.map wof) l.length) h1 (by rw [wsqs_len]; have : l.length * (60 + 60 + 1) ≤ 16 * 121 := Nat.mul_le_mul_right _ hs; omega)
    have hws : WS (wsqs (l.map wof) l.length) = .lst l.length (flat WC (wsqs (l.map wof) l.length)) := by rw [WS, wsqs_len]
    rw [hws] at hs1
    obtain ⟨σ0, cs, hbut⟩ := hs1.rowE hr (by rw [flat_len WC_len, wsqs_len]) (WS_frz σ 4 _) (flat_rows (fun _ => rfl) _) (Nat.le_refl _)
    obtain ⟨q1, o1⟩ := wsum_q h1
    rw [wsqs_len] at o1
    obtain ⟨z, hz, hzl⟩ := hz
    have hz0 := hz.but (b := b) (by omega) hbut
    have cg := r75 o1 (by have : l.length * (60 + 60 + 1) ≤ 16 * 121 := Nat.mul_le_mul_right _ hs; omega) σ0 [WA (wsum (wsqs (l.map wof) l.length))] rfl
    have hcol : colQ (l.map rq) = sumI (sqQ ((l.map wof).map Wd.q)) l.length := by rw [colQ, map_wof_q, List.length_map]
    rw [q1, h2, ← hcol] at cg
    generalize colQ (l.map rq) = d at *
    obtain ⟨a, b_, c, hR⟩ := frA_is d
    rw [hR] at cg ⊢
    obtain ⟨σ1, a1, a2, a3⟩ := hz0.st (ws := [.int .i64 a, .int .i64 b_]) (by rw [hzl]; rfl) rfl
    exact ⟨σ1, e29 l.length b l.length (flat FC l) _ a b_ c σ σ0 σ1 cs cg a1 (a2.rd rfl)⟩
  | succ m ih =>
    intro i b σ hi hb0 hr hz
    have hil : i < l.length := by omega
    have hvi := vfl_get hv hil
    have c1 := (r82 hvi).pure σ rfl rfl
    have ow : (wof l[i]).ok 60 := ⟨hvi, Nat.le_refl _⟩
    have c2 := (r81 ow ow (by decide)).pure σ rfl rfl
    have hcat : flat WC (wsqs (l.map wof) i) ++ WC (wmul (wof l[i]) (wof l[i])) = flat WC (wsqs (l.map wof) (i + 1)) := by
      have e : atW (l.map wof) i = wof l[i] := by rw [atW_of (by simpa using hil)]; simp
      rw [wsqs, e, flat_app]; simp [flat]
    have c4 := build_el (T := TT) (σ := σ) (st := 101) (w := WC (wmul (wof l[i]) (wof l[i]))) ty101 ty99 (by decide) rfl rfl rfl
    obtain ⟨σ4, d1, d2, d3⟩ := append_el (T := TT) (st := 101) (n := i) ty101 ty99 (fun _ _ => trivial) (by decide) (WC_len (wmul (wof l[i]) (wof l[i]))) (WC_one _) (by rw [flat_len WC_len, wsqs_len]) hr (by omega)
    rw [hcat] at d2
    obtain ⟨z, hz, hzl⟩ := hz
    obtain ⟨σ', k1⟩ := ih (i + 1) (σ.n + 1) σ4 (by omega) (by omega) d2 ⟨z, hz.keep4 (by omega) d3 (Nat.lt_of_succ_lt d2.lt), hzl⟩
    have hi1 : ((i + 1 : Nat) : Int) = (i : Int) + 1 := by omega
    rw [hi1] at k1
    refine ⟨σ', ?_⟩
    rw [← k1]
    exact s29 l.length i b i (σ.n + 1) (i + 1) (flat FC l) (FC l[i]) (WC (wof l[i])) _ σ _ σ4 hil (FS_get hil σ) c1 c2 (WC_eqv _) (FC_eqv _) c4 d1 (wrapA_id (by omega) (by omega))
theorem r29 (l : List (Int × Int)) (hs : l.length ≤ 10000000) : FnV TT 29 [FS l] (valCol l) := by
  have c1 := fun σ : St => r57 l hs σ [FS l] rfl
  unfold valCol
  by_cases h : isSrc l = true
  · rw [if_pos h]
    obtain ⟨h1, h2⟩ := isSrc_b h
    obtain ⟨a1, a2, a3, _, _⟩ := isCh_b h1
    have hk : ¬ ((srcBits l : Nat) : Int) = 0 := by unfold isSrc at h; simp at h; omega
    have hb := build_e0 (T := TT) (σ := (⟨[], 0⟩ : St).push ⟨[.int .i64 0, .int .i64 0], 2, false⟩) (st := 101) ty101 ty99
    have hz : Bx ((⟨[], 0⟩ : St).push ⟨[.int .i64 0, .int .i64 0], 2, false⟩) 0 [.int .i64 0, .int .i64 0] := Bx.push
    obtain ⟨σ', k1⟩ := l29 l a3 a2 l.length 0 1 _ (by omega) (by omega) (RowE.push (σ := (⟨[], 0⟩ : St).push ⟨[.int .i64 0, .int .i64 0], 2, false⟩) (cs := []) (e := 6) (o := false)) ⟨_, hz.old Old.push, rfl⟩
    exact FnV.mk (c := b29) fn29 rfl md29 ⟨σ', (b29t l.length (flat FC l) _ _ _ rfl (c1 _) hk hb).trans k1⟩ (frA_frz _) (frA_scal _)
  · rw [if_neg h]
    have hk : srcBits l = 0 := by unfold isSrc at h; simp at h; omega
    rw [hk] at c1
    exact FnV.mk fn29 rfl md29 (k29f _ _ c1) (fun _ => rfl) rfl

noncomputable def b30 : Code := Try.f30.body.getD .skip
noncomputable def B30_0 : Code := (bodyC (bodyC (sndC (fstC (sndC (sndC (sndC b30)))))))
noncomputable def K30_0 : List It := .lp B30_0 :: .blk 0 :: .code (sndC (sndC (sndC (sndC b30)))) :: []
theorem xl30_0 {fi : FI} {env : Env} {σ : St} : exI TT fi K30_0 env σ = exI TT fi (.code B30_0 :: K30_0) env σ := by unfold K30_0; exact xI_lp
noncomputable def R30_0_0 : List It := .code (sndC (sndC (sndC (sndC b30)))) :: []
theorem eK30_0_0 : exitA 0 K30_0 = some R30_0_0 := rfl
set_option maxHeartbeats 4000000 in
theorem s30 (n i : Nat) (cells x s u t : List AV) (σ σ2 σ3 : St) (hi : i < n) (l1 : cellsAt σ (.lp cells (i * 3)) 3 = some x) (hx : x.length = 3) (s1 : storeCellsA (σ.push ⟨[.bool false, .nilS, .nilS], 3, false⟩) σ.n 0 x = some σ2) (l3 : cellsAt σ2 (.ptr 1 0) 3 = some s) (l4 : cellsAt σ2 (.ptr σ.n 0) 3 = some x) (c1 : callI TT 86 [.agg x, .agg x] σ2 = some (.agg u, σ2)) (c3 : callI TT 85 [.agg s, .agg u] σ2 = some (.agg t, σ2)) (ht : t.length = 3) (s2 : storeCellsA σ2 1 0 t = some σ3) (hes : eqvs s s = true) (hex : eqvs x x = true) (hw : wrapA .i64 ((i : Int) + 1) = (i : Int) + 1) :
    exI TT (FI.of Try.f30 (TT.an 30)) K30_0 [(2, .ptr 0 0), (4, .ptr 1 0), (13, .lst n cells), (14, .int .i64 n), (15, .int .i64 i)] σ = exI TT (FI.of Try.f30 (TT.an 30)) K30_0 [(2, .ptr 0 0), (4, .ptr 1 0), (13, .lst n cells), (14, .int .i64 n), (15, .int .i64 ((i : Int) + 1))] σ3 := by
  rw [fi30]
  conv => lhs; rw [xl30_0]
  simp only [B30_0, b30, Try.f30, Option.getD, fstC, sndC, bodyC, thnC, elsC]
  simp (maxSteps := 1000000) (disch := omega) [eK30_0_0, getCells, takeN, dropN, fieldAddrA, allOne, AV.one, n_push, putN, overN, blt_dec, buildA, sizesOf, fillA, putCells, List.take_succ_cons, List.take_zero, List.drop_succ_cons, List.drop_zero, List.nil_append, List.cons_append, List.length_cons, List.length_nil, eqvs_dgs, hi, l1, hx, s1, l3, l4, c1, c3, ht, s2, hes, hex, hw]
set_option maxHeartbeats 4000000 in
theorem e30 (n : Nat) (cells s : List AV) (a_ b_ : Int) (c_ : Bool) (σ σ1 : St) (l3 : cellsAt σ (.ptr 1 0) 3 = some s) (c2 : callI TT 80 [.agg s] σ = some (.tup [.agg [.int .i64 a_, .int .i64 b_], .bool c_], σ)) (s1 : storeCellsA σ 0 0 [.int .i64 a_, .int .i64 b_] = some σ1) (l4 : cellsAt σ1 (.ptr 0 0) 2 = some [.int .i64 a_, .int .i64 b_]) :
    exI TT (FI.of Try.f30 (TT.an 30)) K30_0 [(2, .ptr 0 0), (4, .ptr 1 0), (13, .lst n cells), (14, .int .i64 n), (15, .int .i64 n)] σ = some (.tup [.agg [.int .i64 a_, .int .i64 b_], .bool c_], σ1) := by
  rw [fi30]
  conv => lhs; rw [xl30_0]
  simp only [B30_0, b30, Try.f30, Option.getD, fstC, sndC, bodyC, thnC, elsC]
  simp (maxSteps := 1000000) (disch := omega) [eK30_0_0, cellsAt, getCells, takeN, dropN, fieldAddrA, allOne, AV.one, n_push, storeCellsA, putN, overN, St.push, St.get, St.set, hget, hset, blt_dec, buildA, sizesOf, fillA, putCells, List.take_succ_cons, List.take_zero, List.drop_succ_cons, List.drop_zero, List.nil_append, List.cons_append, List.length_cons, List.length_nil, eqvs_dgs]
  simp only [R30_0_0, b30, Try.f30, Option.getD, fstC, sndC, bodyC, thnC, elsC]
  simp (maxSteps := 1000000) (disch := omega) [eK30_0_0, getCells, takeN, dropN, fieldAddrA, allOne, AV.one, n_push, putN, overN, blt_dec, buildA, sizesOf, fillA, putCells, List.take_succ_cons, List.take_zero, List.drop_succ_cons, List.drop_zero, List.nil_append, List.cons_append, List.length_cons, List.length_nil, eqvs_dgs, l3, c2, s1, l4]
set_option maxHeartbeats 4000000 in
theorem b30t (n : Nat) (cells cells2 o : List AV) (σ1 σ2 σ3 : St) (h1 : (⟨[], 0⟩ : St).push ⟨[.int .i64 0, .int .i64 0], 2, false⟩ = σ1) (hn : σ1.n = 1) (c0 : callI TT 17 [.lst n cells] σ1 = some (.bool true, σ1)) (c1 : callI TT 84 [.int .i64 0] σ1 = some (.agg o, σ1)) (ho : o.length = 3) (h2 : σ1.push ⟨[.bool false, .nilS, .nilS], 3, false⟩ = σ2) (s1 : storeCellsA σ2 1 0 o = some σ3) (c2 : callI TT 79 [.lst n cells] σ3 = some (.lst n cells2, σ3)) :
    exI TT (FI.of Try.f30 (TT.an 30)) [.code b30] (paramsE 0 [.lst n cells]) ⟨[], 0⟩ = exI TT (FI.of Try.f30 (TT.an 30)) K30_0 [(2, .ptr 0 0), (4, .ptr 1 0), (13, .lst n cells2), (14, .int .i64 n), (15, .int .i64 0)] σ3 := by
  rw [fi30]
  simp only [b30, Try.f30, Option.getD, fstC, sndC, bodyC, thnC, elsC]
  simp (maxSteps := 1000000) (disch := omega) [eK30_0_0, getCells, takeN, dropN, fieldAddrA, allOne, AV.one, n_push, putN, overN, blt_dec, buildA, sizesOf, fillA, putCells, List.take_succ_cons, List.take_zero, List.drop_succ_cons, List.drop_zero, List.nil_append, List.cons_append, List.length_cons, List.length_nil, eqvs_dgs, h1, hn, c0, c1, ho, h2, s1, c2]
  rfl
set_option maxHeartbeats 4000000 in
theorem k30f (n : Nat) (cells : List AV) (c1 : ∀ σ, callI TT 17 [.lst n cells] σ = some (.bool false, σ)) :
    ∃ σ', exI TT (FI.of Try.f30 (TT.an 30)) [.code (Try.f30.body.getD .skip)] (paramsE 0 [.lst n cells]) ⟨[], 0⟩ = some (.tup [.agg [.int .i64 0, .int .i64 0], .bool false], σ') := by
  refine ex1 ?_
  rw [fi30]
  simp only [Try.f30, Option.getD]
  simp (maxSteps := 1000000) (disch := omega) [eK30_0_0, cellsAt, getCells, takeN, dropN, fieldAddrA, allOne, AV.one, n_push, storeCellsA, putN, overN, St.push, St.get, St.set, hget, hset, blt_dec, buildA, sizesOf, fillA, putCells, List.take_succ_cons, List.take_zero, List.drop_succ_cons, List.drop_zero, List.nil_append, List.cons_append, List.length_cons, List.length_nil, eqvs_dgs, c1]
theorem l30 (p : List Rat) (hp : ∀ x ∈ p, Bd 60 x) (hs : p.length ≤ 16) : ∀ (m i : Nat) (σ : St), i + m = p.length → Bx σ 1 (RC (sumI (sqQ p) i)) → (∃ z, Bx σ 0 z ∧ z.length = 2) →
    ∃ σ', exI TT (FI.of Try.f30 (TT.an 30)) K30_0 [(2, .ptr 0 0), (4, .ptr 1 0), (13, RS p), (14, .int .i64 p.length), (15, .int .i64 i)] σ = some (frA (colQ p), σ') := by
  intro m
  induction m with
  | zero =>
    intro i σ hi hb hz
    obtain rfl : i = p.length := by omega
    have hbd := colQ_bd hp p.length (Nat.le_refl _)
    have cg := r80 hbd (by have : p.length * (2 * 60 + 1) ≤ 16 * 121 := Nat.mul_le_mul_right _ hs; omega) σ [RT (sumI (sqQ p) p.length)] rfl
    obtain ⟨z, hz, hzl⟩ := hz
    rw [colQ]
    have hbr := hb.rd (n := 3) rfl
    show ∃ σ', exI TT (FI.of Try.f30 (TT.an 30)) K30_0 [(2, .ptr 0 0), (4, .ptr 1 0), (13, RS p), (14, .int .i64 p.length), (15, .int .i64 p.length)] σ = some (frA (sumI (sqQ p) p.length), σ')
    obtain ⟨a, b_, c, hR⟩ := frA_is (sumI (sqQ p) p.length)
    rw [hR] at cg ⊢
    obtain ⟨σ1, a1, a2, a3⟩ := hz.st (ws := [.int .i64 a, .int .i64 b_]) (by rw [hzl]; rfl) rfl
    exact ⟨σ1, e30 p.length (flat RC p) _ a b_ c σ σ1 hbr cg a1 (a2.rd rfl)⟩
  | succ m ih =>
    intro i σ hi hb hz
    have hil : i < p.length := by omega
    obtain ⟨σ2, a1, a2, a3, a4⟩ := new_box (σ := σ) (z := [.bool false, .nilS, .nilS]) (x := RC p[i]) (m := 3) rfl rfl
    have hb2 := hb.old a3
    obtain ⟨z, hz, hzl⟩ := hz
    have hz2 := hz.old a3
    have bp := hp _ (List.getElem_mem hil)
    have cm := (r86 bp bp (by decide)).pure σ2 rfl rfl
    have hbd := colQ_bd hp i (by omega)
    have hmul : i * (2 * 60 + 1) ≤ 16 * 121 := Nat.mul_le_mul (by omega) (by decide)
    have cp := (r85 (hbd.mono (show _ ≤ 4000 by omega)) ((bp.mul bp).mono (show _ ≤ 4000 by omega)) (by decide)).pure σ2 rfl rfl
    have hs1 : sumI (sqQ p) (i + 1) = sumI (sqQ p) i + p[i] * p[i] := by rw [sumI, sqQ, getD_of hil]
    obtain ⟨σ3, d1, d2, d3⟩ := hb2.st (ws := RC (sumI (sqQ p) (i + 1))) rfl (RC_one _)
    obtain ⟨σ', k1⟩ := ih (i + 1) σ3 (by omega) d2 ⟨z, hz2.but (by decide) d3, hzl⟩
    have hi1 : ((i + 1 : Nat) : Int) = (i : Int) + 1 := by omega
    rw [hi1] at k1
    refine ⟨σ', ?_⟩
    rw [← k1]
    exact s30 p.length i (flat RC p) (RC p[i]) _ _ (RC (sumI (sqQ p) (i + 1))) σ σ2 σ3 hil (RS_get hil σ) rfl a1 (hb2.rd rfl) (a2.rd rfl) cm (cp.trans (by rw [hs1]; rfl)) rfl d1 (RC_eqv _) (RC_eqv _) (wrapA_id (by omega) (by omega))
theorem r30 (l : List (Int × Int)) (hs : l.length ≤ 10000000) : FnV TT 30 [FS l] (valCol l) := by
  have c1 := fun σ : St => r17 l hs σ [FS l] rfl
  unfold valCol
  cases h : isSrc l with
  | true =>
    rw [h] at c1
    obtain ⟨h1, h2⟩ := isSrc_b h
    obtain ⟨a1, a2, a3, _, _⟩ := isCh_b h1
    have c3 := r79 l a3 (by omega)
    have co := fun σ : St => (r84 (n := 0) (by decide) (by decide)).pure σ rfl rfl
    have hb0 : Bx ((⟨[], 0⟩ : St).push ⟨[.int .i64 0, .int .i64 0], 2, false⟩) 0 [.int .i64 0, .int .i64 0] := Bx.push
    obtain ⟨σ3, d1, d2, d3, d4⟩ := new_box (σ := (⟨[], 0⟩ : St).push ⟨[.int .i64 0, .int .i64 0], 2, false⟩) (z := [.bool false, .nilS, .nilS]) (x := RC (mkRat 0 1)) (m := 3) rfl rfl
    have hll : (l.map rq).length = l.length := by simp
    obtain ⟨σ', k1⟩ := l30 (l.map rq) (rq_bds a3) (by omega) (l.map rq).length 0 σ3 (by omega) d2 ⟨_, hb0.old d3, rfl⟩
    have e1 : RS (l.map rq) = .lst l.length (flat RC (l.map rq)) := by simp [RS]
    rw [e1, hll] at k1
    rw [e1] at c3
    exact FnV.mk (c := b30) fn30 rfl md30 ⟨σ', (b30t l.length (flat FC l) (flat RC (l.map rq)) _ _ _ σ3 rfl rfl (c1 _) (co _) rfl rfl d1 (c3.pure _ rfl rfl)).trans k1⟩ (frA_frz _) (frA_scal _)
  | false =>
    rw [h] at c1
    exact FnV.mk fn30 rfl md30 (k30f _ _ c1) (fun _ => rfl) rfl

set_option maxHeartbeats 4000000 in
theorem z7_1 (n1 : Nat) (cells1 : List AV) (z1 : ∀ σ, callI TT 14 [.lst n1 cells1, .int .i64 1048576] σ = some (.int .i64 (-1), σ)) :
    ∃ σ', exI TT (FI.of Try.f7 (TT.an 7)) [.code (Try.f7.body.getD .skip)] (paramsE 0 [.lst n1 cells1]) ⟨[], 0⟩ = some (.bool true, σ') := by
  refine ex1 ?_
  rw [fi7]
  simp only [Try.f7, Option.getD]
  simp (maxSteps := 1000000) (disch := omega) [cellsAt, getCells, takeN, dropN, fieldAddrA, allOne, AV.one, n_push, storeCellsA, putN, overN, St.push, St.get, St.set, hget, hset, blt_dec, buildA, sizesOf, fillA, putCells, List.take_succ_cons, List.take_zero, List.drop_succ_cons, List.drop_zero, List.nil_append, List.cons_append, List.length_cons, List.length_nil, eqvs_dgs, z1]
set_option maxHeartbeats 4000000 in
theorem k7 (n1 : Nat) (cells1 : List AV) (k1 : Int) (a b : Int) (c : Bool) (z1 : ∀ σ, callI TT 14 [.lst n1 cells1, .int .i64 1048576] σ = some (.int .i64 k1, σ)) (hk1 : 0 ≤ k1) (t1 : ∀ σ, callI TT 16 [.lst n1 cells1] σ = some (.lst n1 cells1, σ)) (e1 : ∀ σ, callI TT 18 [.lst n1 cells1, .lst n1 cells1] σ = some (.bool true, σ)) (cS : ∀ σ, callI TT 29 [.lst n1 cells1] σ = some (.tup [.agg [.int .i64 a, .int .i64 b], .bool c], σ)) (cI : ∀ σ, callI TT 30 [.lst n1 cells1] σ = some (.tup [.agg [.int .i64 a, .int .i64 b], .bool c], σ)) (cE : ∀ σ, callI TT 26 [.agg [.int .i64 a, .int .i64 b], .agg [.int .i64 a, .int .i64 b]] σ = some (.bool true, σ)) :
    ∃ σ', exI TT (FI.of Try.f7 (TT.an 7)) [.code (Try.f7.body.getD .skip)] (paramsE 0 [.lst n1 cells1]) ⟨[], 0⟩ = some (.bool true, σ') := by
  refine ex1 ?_
  rw [fi7]
  simp only [Try.f7, Option.getD]
  cases c <;>
  simp (maxSteps := 1000000) (disch := omega) [cellsAt, getCells, takeN, dropN, fieldAddrA, allOne, AV.one, n_push, storeCellsA, putN, overN, St.push, St.get, St.set, hget, hset, blt_dec, buildA, sizesOf, fillA, putCells, List.take_succ_cons, List.take_zero, List.drop_succ_cons, List.drop_zero, List.nil_append, List.cons_append, List.length_cons, List.length_nil, eqvs_dgs, z1, hk1, t1, e1, cS, cI, cE]
theorem w7 (l1 : List (Int × Int)) (hl1 : l1.length ≤ maxLen) : FnV TT 7 [FS l1] (.bool true) := by
  have hm1 : l1.length ≤ 9223372036854775807 := by unfold maxLen at hl1; omega
  have c1 := fun σ : St => r14 l1 (1048576) (Nat.le_refl _) hm1 σ [FS l1, .int .i64 ((1048576 : Nat) : Int)] rfl
  by_cases hb1 : (1048576) < l1.length
  · rw [if_pos hb1] at c1
    exact FnV.mk fn7 rfl md7 (z7_1 _ _   c1) (fun _ => rfl) rfl
  · rw [if_neg hb1] at c1
    have q1 : (((1048576 : Nat)) : Int) - (l1.length : Int) = (((1048576) - l1.length : Nat) : Int) := by omega
    rw [q1] at c1
    have hs1 : l1.length ≤ 1048576 := by omega
    have hz1 : l1.length ≤ 10000000 := by omega
    have hS := r29 l1 hz1
    have hI := r30 l1 hz1
    obtain ⟨a, b, c, hR⟩ := isR7 l1
    rw [hR] at hS hI
    exact FnV.mk fn7 rfl md7 (k7 _ _ _ _ _ _ c1 (by omega) (fun σ => (r16 l1 hz1).pure σ rfl rfl) (fun σ => r18 l1 hz1 σ [FS l1, FS l1] rfl) (fun σ => hS σ [FS l1] rfl) (fun σ => hI σ [FS l1] rfl) (fun σ => r26 a b σ [.agg [.int .i64 a, .int .i64 b], .agg [.int .i64 a, .int .i64 b]] rfl)) (fun _ => rfl) rfl

end Go.Proofs.Ytihoeimlkbjgmaa
