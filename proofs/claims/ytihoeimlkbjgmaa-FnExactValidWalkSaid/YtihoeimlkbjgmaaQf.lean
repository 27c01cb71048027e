/- Numbers of any size, fractions, chances: contracts. Nothing is claimed here; no condition. -/
import Derived.Test.YtihoeimlkbjgmaaQe
set_option linter.unusedSimpArgs false
set_option linter.unusedVariables false
namespace Go.Proofs.Ytihoeimlkbjgmaa
open Go Go.Abs Go.Nm
attribute [local simp] xI_seq xI_region xI_ret regA regOps runOps opStep wantedA opA evo evos calleeA lk nif_eq putE paramsE valS val2 keepE restrict finA resA binA binInt ofConst ofConst1 loadA TK.isAgg asVar unA builtinA lenOpA lenA indexAddrA evPairs storeA AV.cellsOf pairsOf xI_nil binBool gcE evOpt runTr pairsOk pairOk sameVal AV.eqv lastOf lstAt eqvs boundA indexA regF twoOf prsOf memI runTrF selF runTr2 freshOp scals AV.scal xI_block xI_loopH xI_condM xI_exitM xI_skip xI_blk exitA List.getElem?_cons_zero List.getElem?_cons_succ List.getElem?_toArray List.getElem?_nil ileb_t ileb_f ieqb_t ieqb_f inB_t wrapA_id lp_read ieqb_self Nat.blt_eq cond_true cond_false ty2 ty3 ty4 ty22 ty25 ty41 ty58 ty76 ty90 ty92 ty97 ty99 ty101 ty104
theorem RC_len (q : Rat) : (RC q).length = 3 := rfl
theorem RC_frz (σ : St) (d : Nat) (q : Rat) : mapO (frzV σ (d + 1)) (RC q) = some (RC q) := rfl
/-- A list of ratios. -/
def RS (l : List Rat) : AV := .lst l.length (flat RC l)
theorem RS_get {l : List Rat} {i : Nat} (h : i < l.length) (σ : St) : cellsAt σ (.lp (flat RC l) (i * 3)) 3 = some (RC l[i]) := flat_get RC_len l i _ (List.getElem?_eq_getElem h)
/-- A variable of a loop: a new box. -/
theorem new_box {σ : St} {z x : List AV} {m : Nat} (hz : z.length = x.length) (hx : allOne x = true) : ∃ σ2, storeCellsA (σ.push ⟨z, m, false⟩) σ.n 0 x = some σ2 ∧ Bx σ2 σ.n x ∧ Old σ σ2 ∧ σ2.n = σ.n + 1 := by
  have h1 : Bx (σ.push ⟨z, m, false⟩) σ.n z := Bx.push
  obtain ⟨σ2, a1, a2, a3⟩ := h1.st (ws := x) hz.symm hx
  exact ⟨σ2, a1, a2, ⟨by rw [a3.1]; exact Nat.le_succ _, fun c hc => by rw [a3.2 c (by omega)]; exact get_push_lt hc⟩, a3.1⟩
/-- A row of aggregates that is given away. -/
theorem _root_.Go.Abs.FnF.rowE {T : Tab} {f : FuncId} {v : AV} {cs : List AV} {e n c : Nat} (h : FnF T f [.lst n cs] v) {σ : St} {b : Nat} (hr : RowE σ b e cs) (hl : cs.length = n * e) (hf : mapO (frzV σ 5) cs = some cs) (h0 : cs.flatMap (rowsV σ 5) = []) (hc : n ≤ c) : ∃ σ', callI T f [.sl b 0 n c] σ = some (v, σ') ∧ But b σ σ' := by
  refine ⟨_, h σ [.sl b 0 n c] (mapO_cons (hr.frz (d := 4) hl hf hc) rfl), ?_⟩
  split
  · exact ⟨rfl, fun _ _ => rfl⟩
  · have : [AV.sl b 0 n c].flatMap (rowsV σ frzDepth) = [b] := by
      show rowsV σ frzDepth (.sl b 0 n c) ++ [] = [b]
      rw [List.append_nil, show frzDepth = 5 + 1 from rfl]
      obtain ⟨o, hg, _⟩ := hr
      have : getCells cs 0 (n * e) = some cs := by rw [getCells_eq, if_pos (by omega), List.drop_zero, List.take_of_length_le (by omega)]
      unfold rowsV
      simp only [hg, this, h0]
    rw [this]
    exact ⟨rfl, fun x hx => get_del_ne (fun e => hx e.symm)⟩
theorem flat_rows {α : Type} {f : α → List AV} {σ : St} {d : Nat} (hf : ∀ x, (f x).flatMap (rowsV σ d) = []) (l : List α) : (flat f l).flatMap (rowsV σ d) = [] := by
  induction l with
  | nil => rfl
  | cons x r ih => rw [flat, List.flatMap_cons, List.flatMap_append, hf]; exact ih
theorem mkRat_pos {n : Int} {d : Nat} (h : 0 ≤ n) : 0 ≤ mkRat n d := by rw [← Rat.divInt_ofNat]; exact Rat.divInt_nonneg h (Int.natCast_nonneg d)
/-- Sums. -/
def sumI (f : Nat → Rat) : Nat → Rat
  | 0 => 0
  | n + 1 => sumI f n + f n
def adQ (p q : List Rat) (i : Nat) : Rat := (p.getD i 0 - q.getD i 0).abs
def distQ (p q : List Rat) : Rat := sumI (adQ p q) p.length / 2
theorem getD_of {α : Type} {l : List α} {i : Nat} {d : α} (h : i < l.length) : l.getD i d = l[i] := by simp [List.getD_eq_getElem?_getD, h]
theorem adQ_of {p q : List Rat} {i : Nat} (h : i < p.length) (k : i < q.length) : adQ p q i = (p[i] - q[i]).abs := by rw [adQ, getD_of h, getD_of k]

noncomputable def b79 : Code := Try.f79.body.getD .skip
noncomputable def B79_0 : Code := (bodyC (bodyC (sndC (fstC (sndC (sndC b79))))))
noncomputable def K79_0 : List It := .lp B79_0 :: .blk 0 :: .code (sndC (sndC (sndC b79))) :: []
theorem xl79_0 {fi : FI} {env : Env} {σ : St} : exI TT fi K79_0 env σ = exI TT fi (.code B79_0 :: K79_0) env σ := by unfold K79_0; exact xI_lp
noncomputable def R79_0_0 : List It := .code (sndC (sndC (sndC b79))) :: []
theorem eK79_0_0 : exitA 0 K79_0 = some R79_0_0 := rfl
set_option maxHeartbeats 4000000 in
theorem s79 (n i b m b2 m2 : Nat) (cells x r : List AV) (σ σ2 σ3 σ4 : St) (hi : i < n) (l1 : cellsAt σ (.lp cells (i * 2)) 2 = some x) (hx : x.length = 2) (s1 : storeCellsA (σ.push ⟨[.int .i64 0, .int .i64 0], 2, false⟩) σ.n 0 x = some σ2) (l4 : cellsAt σ2 (.ptr σ.n 0) 2 = some x) (c1 : callI TT 72 [.agg x] σ2 = some (.agg r, σ2)) (c2 : buildSliceA TT σ2 104 1 [(0, .agg r)] = some (.sl σ2.n 0 1 1, σ3)) (c3 : appendA TT σ3 104 104 (.sl b 0 m m) (.sl σ2.n 0 1 1) = some (.sl b2 0 m2 m2, σ4)) (hw : wrapA .i64 ((i : Int) + 1) = (i : Int) + 1) :
    exI TT (FI.of Try.f79 (TT.an 79)) K79_0 [(3, .sl b 0 m m), (7, .lst n cells), (8, .int .i64 n), (9, .int .i64 i)] σ = exI TT (FI.of Try.f79 (TT.an 79)) K79_0 [(3, .sl b2 0 m2 m2), (7, .lst n cells), (8, .int .i64 n), (9, .int .i64 ((i : Int) + 1))] σ4 := by
  rw [fi79]
  conv => lhs; rw [xl79_0]
  simp only [B79_0, b79, Try.f79, Option.getD, fstC, sndC, bodyC, thnC, elsC]
  simp (maxSteps := 1000000) (disch := omega) [eK79_0_0, getCells, takeN, dropN, fieldAddrA, allOne, AV.one, n_push, putN, overN, blt_dec, buildA, sizesOf, fillA, putCells, List.take_succ_cons, List.take_zero, List.drop_succ_cons, List.drop_zero, List.nil_append, List.cons_append, List.length_cons, List.length_nil, eqvs_dgs, hi, l1, hx, s1, l4, c1, c2, c3, hw]
set_option maxHeartbeats 4000000 in
theorem e79 (n b m : Nat) (cells : List AV) (σ : St)  :
    exI TT (FI.of Try.f79 (TT.an 79)) K79_0 [(3, .sl b 0 m m), (7, .lst n cells), (8, .int .i64 n), (9, .int .i64 n)] σ = some (.sl b 0 m m, σ) := by
  rw [fi79]
  conv => lhs; rw [xl79_0]
  simp only [B79_0, b79, Try.f79, Option.getD, fstC, sndC, bodyC, thnC, elsC]
  simp (maxSteps := 1000000) (disch := omega) [eK79_0_0, cellsAt, getCells, takeN, dropN, fieldAddrA, allOne, AV.one, n_push, storeCellsA, putN, overN, St.push, St.get, St.set, hget, hset, blt_dec, buildA, sizesOf, fillA, putCells, List.take_succ_cons, List.take_zero, List.drop_succ_cons, List.drop_zero, List.nil_append, List.cons_append, List.length_cons, List.length_nil, eqvs_dgs]
  simp only [R79_0_0, b79, Try.f79, Option.getD, fstC, sndC, bodyC, thnC, elsC]
  simp (maxSteps := 1000000) (disch := omega) [eK79_0_0, cellsAt, getCells, takeN, dropN, fieldAddrA, allOne, AV.one, n_push, storeCellsA, putN, overN, St.push, St.get, St.set, hget, hset, blt_dec, buildA, sizesOf, fillA, putCells, List.take_succ_cons, List.take_zero, List.drop_succ_cons, List.drop_zero, List.nil_append, List.cons_append, List.length_cons, List.length_nil, eqvs_dgs]
set_option maxHeartbeats 4000000 in
theorem b79e (n : Nat) (cells : List AV) (σ1 : St) (c1 : buildSliceA TT ⟨[], 0⟩ 104 0 [] = some (.sl 0 0 0 0, σ1)) :
    exI TT (FI.of Try.f79 (TT.an 79)) [.code b79] (paramsE 0 [.lst n cells]) ⟨[], 0⟩ = exI TT (FI.of Try.f79 (TT.an 79)) K79_0 [(3, .sl 0 0 0 0), (7, .lst n cells), (8, .int .i64 n), (9, .int .i64 0)] σ1 := by
  rw [fi79]
  simp only [b79, Try.f79, Option.getD, fstC, sndC, bodyC, thnC, elsC]
  simp (maxSteps := 1000000) (disch := omega) [eK79_0_0, cellsAt, getCells, takeN, dropN, fieldAddrA, allOne, AV.one, n_push, storeCellsA, putN, overN, St.push, St.get, St.set, hget, hset, blt_dec, buildA, sizesOf, fillA, putCells, List.take_succ_cons, List.take_zero, List.drop_succ_cons, List.drop_zero, List.nil_append, List.cons_append, List.length_cons, List.length_nil, eqvs_dgs, c1]
  rfl
theorem l79 (l : List (Int × Int)) (hv : vfl l = true) (hs : l.length ≤ 1000000) : ∀ (m i b : Nat) (σ : St), i + m = l.length → RowE σ b 3 (flat RC ((l.take i).map rq)) →
    ∃ b' σ', exI TT (FI.of Try.f79 (TT.an 79)) K79_0 [(3, .sl b 0 i i), (7, FS l), (8, .int .i64 l.length), (9, .int .i64 i)] σ = some (.sl b' 0 l.length l.length, σ') ∧ RowE σ' b' 3 (flat RC (l.map rq)) := by
  intro m
  induction m with
  | zero =>
    intro i b σ hi hr
    obtain rfl : i = l.length := by omega
    rw [List.take_of_length_le (Nat.le_refl _)] at hr
    exact ⟨b, σ, e79 l.length b l.length (flat FC l) σ, hr⟩
  | succ m ih =>
    intro i b σ hi hr
    have hil : i < l.length := by omega
    have hvi : vfr l[i].1 l[i].2 = true := by
      simp only [vfl, List.all_eq_true] at hv
      exact hv _ (List.getElem_mem hil)
    obtain ⟨σ2, a1, a2, a3, a4⟩ := new_box (σ := σ) (z := [.int .i64 0, .int .i64 0]) (x := FC l[i]) (m := 2) rfl rfl
    have c1 := (r72 hvi).pure σ2 rfl rfl
    have c2 := build_el (T := TT) (σ := σ2) (st := 104) (w := RC (rq l[i])) ty104 ty92 (by decide) rfl rfl rfl
    have hr2 := hr.old a3
    obtain ⟨σ4, d1, d2, _⟩ := append_el (T := TT) (st := 104) (n := i) ty104 ty92 (fun _ _ => trivial) (by decide) (RC_len (rq l[i])) (RC_one _) (by rw [flat_len RC_len]; simp; omega) hr2 (by omega)
    have e : flat RC ((l.take i).map rq) ++ RC (rq l[i]) = flat RC ((l.take (i + 1)).map rq) := by
      rw [List.take_succ_eq_append_getElem hil, List.map_append, flat_app]; simp [flat]
    rw [e] at d2
    obtain ⟨b', σ', k1, k2⟩ := ih (i + 1) (σ2.n + 1) σ4 (by omega) d2
    refine ⟨b', σ', ?_, k2⟩
    rw [← k1]
    have hi1 : ((i + 1 : Nat) : Int) = (i : Int) + 1 := by omega
    rw [hi1]
    exact s79 l.length i b i (σ2.n + 1) (i + 1) (flat FC l) (FC l[i]) (RC (rq l[i])) σ σ2 _ σ4 hil (FS_get hil σ) rfl a1 (a2.rd rfl) c1 c2 d1 (wrapA_id (by omega) (by omega))
theorem r79 (l : List (Int × Int)) (hv : vfl l = true) (hs : l.length ≤ 1000000) : FnF TT 79 [FS l] (RS (l.map rq)) := by
  have hb := build_e0 (T := TT) (σ := ⟨[], 0⟩) (st := 104) ty104 ty92
  obtain ⟨b', σ', k1, k2⟩ := l79 l hv hs l.length 0 0 _ (by omega) (RowE.push (σ := ⟨[], 0⟩) (cs := []) (e := 3) (o := false))
  refine FnF.mk (c := b79) fn79 rfl md79 ⟨σ', _, (b79e _ _ _ hb).trans k1, ?_⟩
  have := k2.frz (d := 4) (n := l.length) (c := l.length) (by rw [flat_len RC_len]; simp) (flat_frz (fun v => RC_frz σ' 4 v) _) (Nat.le_refl _)
  rw [show RS (l.map rq) = .lst l.length (flat RC (l.map rq)) by simp [RS]]
  exact this

noncomputable def b78 : Code := Try.f78.body.getD .skip
noncomputable def B78_0 : Code := (bodyC (bodyC (sndC (fstC (sndC (sndC b78))))))
noncomputable def K78_0 : List It := .lp B78_0 :: .blk 0 :: .code (sndC (sndC (sndC b78))) :: []
theorem xl78_0 {fi : FI} {env : Env} {σ : St} : exI TT fi K78_0 env σ = exI TT fi (.code B78_0 :: K78_0) env σ := by unfold K78_0; exact xI_lp
noncomputable def R78_0_0 : List It := .code (sndC (sndC (sndC b78))) :: []
theorem eK78_0_0 : exitA 0 K78_0 = some R78_0_0 := rfl
set_option maxHeartbeats 4000000 in
theorem s78 (n i n2 : Nat) (cells cells2 x y s u v t : List AV) (σ σ2 σ3 : St) (hi : i < n) (hi2 : i < n2) (l1 : cellsAt σ (.lp cells (i * 3)) 3 = some x) (hx : x.length = 3) (s1 : storeCellsA (σ.push ⟨[.bool false, .nilS, .nilS], 3, false⟩) σ.n 0 x = some σ2) (l3 : cellsAt σ2 (.ptr 1 0) 3 = some s) (l4 : cellsAt σ2 (.ptr σ.n 0) 3 = some x) (l5 : cellsAt σ2 (.lp cells2 (i * 3)) 3 = some y) (c1 : callI TT 109 [.agg x, .agg y] σ2 = some (.agg u, σ2)) (c2 : callI TT 110 [.agg u] σ2 = some (.agg v, σ2)) (c3 : callI TT 85 [.agg s, .agg v] σ2 = some (.agg t, σ2)) (ht : t.length = 3) (s2 : storeCellsA σ2 1 0 t = some σ3) (hes : eqvs s s = true) (hw : wrapA .i64 ((i : Int) + 1) = (i : Int) + 1) :
    exI TT (FI.of Try.f78 (TT.an 78)) K78_0 [(1, .lst n2 cells2), (4, .ptr 0 0), (5, .ptr 1 0), (9, .lst n cells), (10, .int .i64 n), (11, .int .i64 i)] σ = exI TT (FI.of Try.f78 (TT.an 78)) K78_0 [(1, .lst n2 cells2), (4, .ptr 0 0), (5, .ptr 1 0), (9, .lst n cells), (10, .int .i64 n), (11, .int .i64 ((i : Int) + 1))] σ3 := by
  rw [fi78]
  conv => lhs; rw [xl78_0]
  simp only [B78_0, b78, Try.f78, Option.getD, fstC, sndC, bodyC, thnC, elsC]
  simp (maxSteps := 1000000) (disch := omega) [eK78_0_0, getCells, takeN, dropN, fieldAddrA, allOne, AV.one, n_push, putN, overN, blt_dec, buildA, sizesOf, fillA, putCells, List.take_succ_cons, List.take_zero, List.drop_succ_cons, List.drop_zero, List.nil_append, List.cons_append, List.length_cons, List.length_nil, eqvs_dgs, hi, hi2, l1, hx, s1, l3, l4, l5, c1, c2, c3, ht, s2, hes, hw]
set_option maxHeartbeats 4000000 in
theorem e78 (n n2 : Nat) (cells cells2 s o t : List AV) (σ σ1 : St) (l3 : cellsAt σ (.ptr 1 0) 3 = some s) (c1 : callI TT 84 [.int .i64 2] σ = some (.agg o, σ)) (c2 : callI TT 111 [.agg s, .agg o] σ = some (.agg t, σ)) (ht : t.length = 3) (s1 : storeCellsA σ 0 0 t = some σ1) (l4 : cellsAt σ1 (.ptr 0 0) 3 = some t) (hes : eqvs s s = true) :
    exI TT (FI.of Try.f78 (TT.an 78)) K78_0 [(1, .lst n2 cells2), (4, .ptr 0 0), (5, .ptr 1 0), (9, .lst n cells), (10, .int .i64 n), (11, .int .i64 n)] σ = some (.agg t, σ1) := by
  rw [fi78]
  conv => lhs; rw [xl78_0]
  simp only [B78_0, b78, Try.f78, Option.getD, fstC, sndC, bodyC, thnC, elsC]
  simp (maxSteps := 1000000) (disch := omega) [eK78_0_0, cellsAt, getCells, takeN, dropN, fieldAddrA, allOne, AV.one, n_push, storeCellsA, putN, overN, St.push, St.get, St.set, hget, hset, blt_dec, buildA, sizesOf, fillA, putCells, List.take_succ_cons, List.take_zero, List.drop_succ_cons, List.drop_zero, List.nil_append, List.cons_append, List.length_cons, List.length_nil, eqvs_dgs]
  simp only [R78_0_0, b78, Try.f78, Option.getD, fstC, sndC, bodyC, thnC, elsC]
  simp (maxSteps := 1000000) (disch := omega) [eK78_0_0, getCells, takeN, dropN, fieldAddrA, allOne, AV.one, n_push, putN, overN, blt_dec, buildA, sizesOf, fillA, putCells, List.take_succ_cons, List.take_zero, List.drop_succ_cons, List.drop_zero, List.nil_append, List.cons_append, List.length_cons, List.length_nil, eqvs_dgs, l3, c1, c2, ht, s1, l4, hes]
set_option maxHeartbeats 4000000 in
theorem b78e (n n2 : Nat) (cells cells2 o : List AV) (σ1 σ2 σ3 : St) (h1 : (⟨[], 0⟩ : St).push ⟨[.bool false, .nilS, .nilS], 3, false⟩ = σ1) (hn : σ1.n = 1) (c1 : callI TT 84 [.int .i64 0] σ1 = some (.agg o, σ1)) (ho : o.length = 3) (h2 : σ1.push ⟨[.bool false, .nilS, .nilS], 3, false⟩ = σ2) (s1 : storeCellsA σ2 1 0 o = some σ3) :
    exI TT (FI.of Try.f78 (TT.an 78)) [.code b78] (paramsE 0 [.lst n cells, .lst n2 cells2]) ⟨[], 0⟩ = exI TT (FI.of Try.f78 (TT.an 78)) K78_0 [(1, .lst n2 cells2), (4, .ptr 0 0), (5, .ptr 1 0), (9, .lst n cells), (10, .int .i64 n), (11, .int .i64 0)] σ3 := by
  rw [fi78]
  simp only [b78, Try.f78, Option.getD, fstC, sndC, bodyC, thnC, elsC]
  simp (maxSteps := 1000000) (disch := omega) [eK78_0_0, getCells, takeN, dropN, fieldAddrA, allOne, AV.one, n_push, putN, overN, blt_dec, buildA, sizesOf, fillA, putCells, List.take_succ_cons, List.take_zero, List.drop_succ_cons, List.drop_zero, List.nil_append, List.cons_append, List.length_cons, List.length_nil, eqvs_dgs, h1, hn, c1, ho, h2, s1]
  rfl
theorem l78 (p q : List Rat) (hpq : q.length = p.length) (k : Nat) (hp : ∀ x ∈ p, Bd k x) (hq : ∀ x ∈ q, Bd k x) (hk : (p.length + 1) * (2 * k + 3) ≤ 400000000) : ∀ (m i : Nat) (σ : St), i + m = p.length → Bx σ 1 (RC (sumI (adQ p q) i)) → Bd (2 + i * (2 * k + 2)) (sumI (adQ p q) i) → (∃ z, Bx σ 0 z ∧ z.length = 3) →
    ∃ σ', exI TT (FI.of Try.f78 (TT.an 78)) K78_0 [(1, RS q), (4, .ptr 0 0), (5, .ptr 1 0), (9, RS p), (10, .int .i64 p.length), (11, .int .i64 i)] σ = some (RT (distQ p q), σ') := by
  have hkk : p.length * (2 * k + 2) + (2 * k + 3) ≤ 400000000 := by
    have e : (p.length + 1) * (2 * k + 3) = p.length * (2 * k + 3) + (2 * k + 3) := by rw [Nat.add_mul, Nat.one_mul]
    have : p.length * (2 * k + 2) ≤ p.length * (2 * k + 3) := Nat.mul_le_mul_left _ (by omega)
    omega
  have hpl : p.length ≤ p.length * (2 * k + 2) := Nat.le_mul_of_pos_right _ (by omega)
  intro m
  induction m with
  | zero =>
    intro i σ hi hb hbd hz
    obtain rfl : i = p.length := by omega
    have co := (r84 (n := 2) (by decide) (by decide)).pure σ rfl rfl
    have b2 : Bd (2 + p.length * (2 * k + 2)) (mkRat 2 1) := (show Bd 2 (mkRat 2 1) from ⟨by decide, by decide⟩).mono (by omega)
    have cv := (r111 hbd b2 (by decide) (by omega)).pure σ rfl rfl
    obtain ⟨z, hz, hzl⟩ := hz
    obtain ⟨σ1, a1, a2, a3⟩ := hz.st (ws := RC (sumI (adQ p q) p.length / mkRat 2 1)) (by rw [hzl]; rfl) (RC_one _)
    exact ⟨σ1, e78 p.length q.length (flat RC p) (flat RC q) _ _ _ σ σ1 (hb.rd rfl) co cv rfl a1 (a2.rd rfl) (RC_eqv _)⟩
  | succ m ih =>
    intro i σ hi hb hbd hz
    have hil : i < p.length := by omega
    have hiq : i < q.length := by omega
    obtain ⟨σ2, a1, a2, a3, a4⟩ := new_box (σ := σ) (z := [.bool false, .nilS, .nilS]) (x := RC p[i]) (m := 3) rfl rfl
    have hb2 := hb.old a3
    obtain ⟨z, hz, hzl⟩ := hz
    have hz2 := hz.old a3
    have bp := hp _ (List.getElem_mem hil)
    have bq := hq _ (List.getElem_mem hiq)
    have cm := (r109 bp bq (by omega)).pure σ2 rfl rfl
    have bm := bp.sub bq
    have ca := (r110 (p[i] - q[i])).pure σ2 rfl rfl
    have hmul : i * (2 * k + 2) ≤ p.length * (2 * k + 2) := Nat.mul_le_mul_right _ (by omega)
    have cp := (r85 (hbd.mono (show _ ≤ 2 + i * (2 * k + 2) + (k + k + 1) by omega)) (bm.abs.mono (show _ ≤ 2 + i * (2 * k + 2) + (k + k + 1) by omega)) (by omega)).pure σ2 rfl rfl
    have hs : sumI (adQ p q) (i + 1) = sumI (adQ p q) i + (p[i] - q[i]).abs := by rw [sumI, adQ_of hil hiq]
    obtain ⟨σ3, d1, d2, d3⟩ := hb2.st (ws := RC (sumI (adQ p q) (i + 1))) rfl (RC_one _)
    have hbd2 : Bd (2 + (i + 1) * (2 * k + 2)) (sumI (adQ p q) (i + 1)) := by
      rw [hs]
      exact (hbd.add bm.abs).mono (by rw [Nat.add_mul]; omega)
    obtain ⟨σ', k1⟩ := ih (i + 1) σ3 (by omega) d2 hbd2 ⟨z, hz2.but (by decide) d3, hzl⟩
    have hi1 : ((i + 1 : Nat) : Int) = (i : Int) + 1 := by omega
    rw [hi1] at k1
    refine ⟨σ', ?_⟩
    rw [← k1]
    exact s78 p.length i q.length (flat RC p) (flat RC q) (RC p[i]) (RC q[i]) _ _ _ (RC (sumI (adQ p q) (i + 1))) σ σ2 σ3 hil hiq (RS_get hil σ) rfl a1 (hb2.rd rfl) (a2.rd rfl) (RS_get hiq σ2) cm ca (cp.trans (by rw [hs]; rfl)) rfl d1 (RC_eqv _) (wrapA_id (by omega) (by omega))
theorem r78 (p q : List Rat) (hpq : q.length = p.length) (k : Nat) (hp : ∀ x ∈ p, Bd k x) (hq : ∀ x ∈ q, Bd k x) (hk : (p.length + 1) * (2 * k + 3) ≤ 400000000) : FnF TT 78 [RS p, RS q] (RT (distQ p q)) := by
  have co := fun σ : St => (r84 (n := 0) (by decide) (by decide)).pure σ rfl rfl
  have hb1 : Bx (((⟨[], 0⟩ : St).push ⟨[.bool false, .nilS, .nilS], 3, false⟩).push ⟨[.bool false, .nilS, .nilS], 3, false⟩) 1 [.bool false, .nilS, .nilS] := Bx.push
  have hb0 : Bx (((⟨[], 0⟩ : St).push ⟨[.bool false, .nilS, .nilS], 3, false⟩).push ⟨[.bool false, .nilS, .nilS], 3, false⟩) 0 [.bool false, .nilS, .nilS] := Bx.push.old Old.push
  obtain ⟨σ3, a1, a2, a3⟩ := hb1.st (ws := RC (mkRat 0 1)) rfl (RC_one _)
  obtain ⟨σ', h1⟩ := l78 p q hpq k hp hq hk p.length 0 σ3 (by omega) a2 ((show Bd 2 (0 : Rat) from ⟨by decide +kernel, by decide +kernel⟩).mono (by omega)) ⟨_, hb0.but (by decide) a3, rfl⟩
  refine FnF.mkv (c := b78) fn78 rfl md78 ⟨σ', ?_⟩ (fun _ => rfl)
  refine Eq.trans ?_ h1
  exact b78e _ _ _ _ _ _ _ σ3 rfl rfl (co _) rfl rfl a1

theorem half_ok : (Wd.f 1 2).ok 60 ∧ (Wd.f 1 2).q = 1 / 2 := ⟨⟨by decide, Nat.le_refl _⟩, by rw [Wd.q_f]; decide +kernel⟩
theorem WS_get {l : List Wd} {i : Nat} (h : i < l.length) (σ : St) : cellsAt σ (.lp (flat WC l) (i * 6)) 6 = some (WC l[i]) := flat_get WC_len l i _ (List.getElem?_eq_getElem h)
theorem WC_eqv (v : Wd) : eqvs (WC v) (WC v) = true := by simp [WC, eqvs, AV.eqv, SB, eqvs_dgs]
theorem Wd.neg_q {v : Wd} (h : v.neg = true) : v.q ≤ 0 := by
  have : v.q = -mkRat (v.n : Int) v.d := by
    rw [Wd.q, h, show sg true v.n = -(v.n : Int) from rfl, Rat.neg_mkRat]
  rw [this]
  have h2 : 0 ≤ mkRat (v.n : Int) v.d := mkRat_pos (by omega)
  grind
theorem Wd.pos_q {v : Wd} (h : v.neg = false) : 0 ≤ v.q := by
  rw [Wd.q, h]
  exact mkRat_pos (by simp [sg])
/-- The absolute difference of the reference's fractions. -/
def wdiff (v w : Wd) : Wd := if (wadd v (wmul (.f (-1) 1) w)).neg = true then wmul (.f (-1) 1) (wadd v (wmul (.f (-1) 1) w)) else wadd v (wmul (.f (-1) 1) w)
theorem wsub_q {k j : Nat} {v w : Wd} (hv : v.ok k) (hw : w.ok j) : (wadd v (wmul (.f (-1) 1) w)).q = v.q - w.q ∧ (wadd v (wmul (.f (-1) 1) w)).ok (k + (60 + j) + 1) := by
  obtain ⟨n1, n2⟩ := neg1_q
  obtain ⟨q1, o1⟩ := wmul_q n2 hw
  obtain ⟨q2, o2⟩ := wadd_q hv o1
  refine ⟨?_, o2⟩
  rw [q2, q1, n1, Rat.neg_mul, Rat.one_mul, Rat.sub_eq_add_neg]
theorem wdiff_q {k j : Nat} {v w : Wd} (hv : v.ok k) (hw : w.ok j) : (wdiff v w).q = (v.q - w.q).abs ∧ (wdiff v w).ok (k + j + 121) := by
  obtain ⟨n1, n2⟩ := neg1_q
  obtain ⟨q1, o1⟩ := wsub_q hv hw
  unfold wdiff
  by_cases h : (wadd v (wmul (.f (-1) 1) w)).neg = true
  · rw [if_pos h]
    obtain ⟨q2, o2⟩ := wmul_q n2 o1
    refine ⟨?_, o2.mono (by omega)⟩
    have := Wd.neg_q h
    rw [q1] at this
    rw [q2, n1, q1, Rat.abs_of_nonpos this, Rat.neg_mul, Rat.one_mul]
  · rw [if_neg h]
    refine ⟨?_, o1.mono (by omega)⟩
    have := Wd.pos_q (by simpa using h)
    rw [q1] at this
    rw [q1, Rat.abs_of_nonneg this]
def atW (l : List Wd) (i : Nat) : Wd := l.getD i (.f 0 1)
def wdiffs (p q : List Wd) : Nat → List Wd
  | 0 => []
  | n + 1 => wdiffs p q n ++ [wdiff (atW p n) (atW q n)]
theorem wdiffs_len (p q : List Wd) : ∀ n, (wdiffs p q n).length = n
  | 0 => rfl
  | n + 1 => by rw [wdiffs, List.length_append, wdiffs_len p q n]; rfl
def wdist (p q : List Wd) : Wd := wlow (wmul (wsum (wdiffs p q p.length)) (.f 1 2))
theorem atW_of {l : List Wd} {i : Nat} (h : i < l.length) : atW l i = l[i] := getD_of h
theorem wdiffs_ok {k : Nat} {p q : List Wd} (hpq : q.length = p.length) (hp : ∀ x ∈ p, x.ok k) (hq : ∀ x ∈ q, x.ok k) : ∀ n, n ≤ p.length → (∀ x ∈ wdiffs p q n, x.ok (k + k + 121)) ∧ (wdiffs p q n).foldl (fun (x : Rat) w => x + w.q) 0 = sumI (adQ (p.map Wd.q) (q.map Wd.q)) n
  | 0, _ => ⟨by simp [wdiffs], rfl⟩
  | n + 1, h => by
    obtain ⟨h1, h2⟩ := wdiffs_ok hpq hp hq n (by omega)
    have hn : n < p.length := by omega
    have hn2 : n < q.length := by omega
    obtain ⟨q1, o1⟩ := wdiff_q (hp _ (List.getElem_mem hn)) (hq _ (List.getElem_mem hn2))
    rw [wdiffs, atW_of hn, atW_of hn2]
    refine ⟨?_, ?_⟩
    · intro x hx
      rcases List.mem_append.1 hx with hx | hx
      · exact h1 x hx
      · rw [List.mem_singleton.1 hx]; exact o1
    · rw [List.foldl_append, h2, sumI, adQ_of (i := n) (by simpa using hn) (by simpa using hn2)]
      simp [q1]
theorem wdist_q {k : Nat} {p q : List Wd} (hpq : q.length = p.length) (hp : ∀ x ∈ p, x.ok k) (hq : ∀ x ∈ q, x.ok k) : (wdist p q).q = distQ (p.map Wd.q) (q.map Wd.q) ∧ (wdist p q).ok (120 + p.length * (k + k + 121 + 1)) := by
  obtain ⟨h1, h2⟩ := wdiffs_ok hpq hp hq p.length (Nat.le_refl _)
  obtain ⟨q1, o1⟩ := wsum_q h1
  rw [wdiffs_len] at o1
  obtain ⟨hh, hq2⟩ := half_ok
  obtain ⟨q2, o2⟩ := wmul_q o1 hh
  obtain ⟨q3, o3⟩ := wlow_q o2
  refine ⟨?_, o3.mono (by omega)⟩
  rw [wdist, q3, q2, q1, hq2, h2, distQ, List.length_map, Rat.div_def, Rat.div_def, Rat.one_mul]

set_option maxHeartbeats 4000000 in
theorem k142 (x o t : List AV) (σ0 σ1 σ2 : St) (hx : x.length = 6) (hox : allOne x = true) (h1 : (⟨[], 0⟩ : St).push ⟨x, 6, false⟩ = σ0) (hn : σ0.n = 1) (h2 : σ0.push ⟨[.bool false, .nilS, .nilS, .bool false, .int .i64 0, .int .i64 0], 6, false⟩ = σ1) (l1 : cellsAt σ1 (.ptr 0 0) 6 = some x) (c1 : ∀ σ, callI TT 82 [.agg [.int .i64 1, .int .i64 2]] σ = some (.agg o, σ)) (c2 : ∀ σ, callI TT 81 [.agg x, .agg o] σ = some (.agg t, σ)) (ht : t.length = 6) (hex : eqvs x x = true) (ho : allOne t = true) (s1 : storeCellsA σ1 1 0 t = some σ2) (l2 : cellsAt σ2 (.ptr 1 0) 6 = some t) :
    ∃ σ', exI TT (FI.of Try.f142 (TT.an 142)) [.code (Try.f142.body.getD .skip)] (paramsE 0 [.agg x]) ⟨[], 0⟩ = some (.agg t, σ') := by
  refine ex1 ?_
  rw [fi142]
  simp only [Try.f142, Option.getD]
  simp (maxSteps := 1000000) (disch := omega) [getCells, takeN, dropN, fieldAddrA, allOne, AV.one, n_push, putN, overN, blt_dec, buildA, sizesOf, fillA, putCells, List.take_succ_cons, List.take_zero, List.drop_succ_cons, List.drop_zero, List.nil_append, List.cons_append, List.length_cons, List.length_nil, eqvs_dgs, hx, hox, h1, hn, h2, l1, c1, c2, ht, hex, ho, s1, l2]
theorem r142 {k : Nat} {v : Wd} (hv : v.ok k) (hk : 60 ≤ k) (hk2 : k ≤ 100000000) : FnF TT 142 [WA v] (WA (wmul v (.f 1 2))) := by
  obtain ⟨hh, _⟩ := half_ok
  have hb0 : Bx ((⟨[], 0⟩ : St).push ⟨WC v, 6, false⟩) 0 (WC v) := Bx.push
  obtain ⟨σ2, d1, d2, d3, d4⟩ := new_box (σ := (⟨[], 0⟩ : St).push ⟨WC v, 6, false⟩) (z := [.bool false, .nilS, .nilS, .bool false, .int .i64 0, .int .i64 0]) (x := WC (wmul v (.f 1 2))) (m := 6) rfl (WC_one _)
  exact FnF.mkv fn142 rfl md142 (k142 (WC v) _ _ _ _ σ2 rfl (WC_one _) rfl rfl rfl ((hb0.old Old.push).rd rfl) (fun σ => (r82 (n := 1) (d := 2) (by decide)).pure σ rfl rfl) (fun σ => (r81 hv (hh.mono hk) hk2).pure σ rfl rfl) rfl (WC_eqv v) (WC_one _) d1 (d2.rd rfl)) (fun _ => rfl)

noncomputable def b76 : Code := Try.f76.body.getD .skip
noncomputable def B76_0 : Code := (bodyC (bodyC (sndC (fstC (sndC (sndC b76))))))
noncomputable def K76_0 : List It := .lp B76_0 :: .blk 0 :: .code (sndC (sndC (sndC b76))) :: []
theorem xl76_0 {fi : FI} {env : Env} {σ : St} : exI TT fi K76_0 env σ = exI TT fi (.code B76_0 :: K76_0) env σ := by unfold K76_0; exact xI_lp
noncomputable def R76_0_0 : List It := .code (sndC (sndC (sndC b76))) :: []
theorem eK76_0_0 : exitA 0 K76_0 = some R76_0_0 := rfl
set_option maxHeartbeats 4000000 in
theorem s76p (n i n2 b m b2 m2 : Nat) (cells cells2 x y o u v : List AV) (σ σ2 σ3 σ4 : St) (hi : i < n) (hi2 : i < n2) (l1 : cellsAt σ (.lp cells (i * 6)) 6 = some x) (c1 : ∀ σ, callI TT 82 [.agg [.int .i64 (-1), .int .i64 1]] σ = some (.agg o, σ)) (l2 : cellsAt σ (.lp cells2 (i * 6)) 6 = some y) (c2 : callI TT 81 [.agg o, .agg y] σ = some (.agg u, σ)) (c3 : callI TT 141 [.agg x, .agg u] σ = some (.agg v, σ)) (hv : v.length = 6) (hex : eqvs x x = true) (hey : eqvs y y = true) (s1 : storeCellsA (σ.push ⟨[.bool false, .nilS, .nilS, .bool false, .int .i64 0, .int .i64 0], 6, false⟩) σ.n 0 v = some σ2) (l3 : cellsAt σ2 (.ptr σ.n 0) 1 = some [.bool false]) (l4 : cellsAt σ2 (.ptr σ.n 0) 6 = some v) (c4 : buildSliceA TT σ2 101 1 [(0, .agg v)] = some (.sl σ2.n 0 1 1, σ3)) (c5 : appendA TT σ3 101 101 (.sl b 0 m m) (.sl σ2.n 0 1 1) = some (.sl b2 0 m2 m2, σ4)) (hw : wrapA .i64 ((i : Int) + 1) = (i : Int) + 1) :
    exI TT (FI.of Try.f76 (TT.an 76)) K76_0 [(0, .lst n cells), (1, .lst n2 cells2), (4, .ptr 0 0), (5, .sl b 0 m m), (6, .int .i64 i)] σ = exI TT (FI.of Try.f76 (TT.an 76)) K76_0 [(0, .lst n cells), (1, .lst n2 cells2), (4, .ptr 0 0), (5, .sl b2 0 m2 m2), (6, .int .i64 ((i : Int) + 1))] σ4 := by
  rw [fi76]
  conv => lhs; rw [xl76_0]
  simp only [B76_0, b76, Try.f76, Option.getD, fstC, sndC, bodyC, thnC, elsC]
  simp (maxSteps := 1000000) (disch := omega) [eK76_0_0, getCells, takeN, dropN, fieldAddrA, allOne, AV.one, n_push, putN, overN, blt_dec, buildA, sizesOf, fillA, putCells, List.take_succ_cons, List.take_zero, List.drop_succ_cons, List.drop_zero, List.nil_append, List.cons_append, List.length_cons, List.length_nil, eqvs_dgs, hi, hi2, l1, c1, l2, c2, c3, hv, hex, hey, s1, l3, l4, c4, c5, hw]
set_option maxHeartbeats 4000000 in
theorem s76n (n i n2 b m b2 m2 : Nat) (cells cells2 x y o u v w : List AV) (σ σ2 σ3 σ4 σ5 : St) (hi : i < n) (hi2 : i < n2) (l1 : cellsAt σ (.lp cells (i * 6)) 6 = some x) (c1 : ∀ σ, callI TT 82 [.agg [.int .i64 (-1), .int .i64 1]] σ = some (.agg o, σ)) (l2 : cellsAt σ (.lp cells2 (i * 6)) 6 = some y) (c2 : callI TT 81 [.agg o, .agg y] σ = some (.agg u, σ)) (c3 : callI TT 141 [.agg x, .agg u] σ = some (.agg v, σ)) (hv : v.length = 6) (hex : eqvs x x = true) (hey : eqvs y y = true) (s1 : storeCellsA (σ.push ⟨[.bool false, .nilS, .nilS, .bool false, .int .i64 0, .int .i64 0], 6, false⟩) σ.n 0 v = some σ2) (l3 : cellsAt σ2 (.ptr σ.n 0) 1 = some [.bool true]) (l4 : cellsAt σ2 (.ptr σ.n 0) 6 = some v) (c6 : callI TT 81 [.agg o, .agg v] σ2 = some (.agg w, σ2)) (hw6 : w.length = 6) (s2 : storeCellsA σ2 σ.n 0 w = some σ3) (l5 : cellsAt σ3 (.ptr σ.n 0) 6 = some w) (hev : eqvs v v = true) (c4 : buildSliceA TT σ3 101 1 [(0, .agg w)] = some (.sl σ3.n 0 1 1, σ4)) (c5 : appendA TT σ4 101 101 (.sl b 0 m m) (.sl σ3.n 0 1 1) = some (.sl b2 0 m2 m2, σ5)) (hw : wrapA .i64 ((i : Int) + 1) = (i : Int) + 1) :
    exI TT (FI.of Try.f76 (TT.an 76)) K76_0 [(0, .lst n cells), (1, .lst n2 cells2), (4, .ptr 0 0), (5, .sl b 0 m m), (6, .int .i64 i)] σ = exI TT (FI.of Try.f76 (TT.an 76)) K76_0 [(0, .lst n cells), (1, .lst n2 cells2), (4, .ptr 0 0), (5, .sl b2 0 m2 m2), (6, .int .i64 ((i : Int) + 1))] σ5 := by
  rw [fi76]
  conv => lhs; rw [xl76_0]
  simp only [B76_0, b76, Try.f76, Option.getD, fstC, sndC, bodyC, thnC, elsC]
  simp (maxSteps := 1000000) (disch := omega) [eK76_0_0, getCells, takeN, dropN, fieldAddrA, allOne, AV.one, n_push, putN, overN, blt_dec, buildA, sizesOf, fillA, putCells, List.take_succ_cons, List.take_zero, List.drop_succ_cons, List.drop_zero, List.nil_append, List.cons_append, List.length_cons, List.length_nil, eqvs_dgs, hi, hi2, l1, c1, l2, c2, c3, hv, hex, hey, s1, l3, l4, c6, hw6, s2, l5, hev, c4, c5, hw]
set_option maxHeartbeats 4000000 in
theorem e76 (n n2 b m : Nat) (cells cells2 s t u : List AV) (σ σ0 σ1 : St) (c1 : callI TT 83 [.sl b 0 m m] σ = some (.agg s, σ0)) (c2 : callI TT 142 [.agg s] σ0 = some (.agg t, σ0)) (c3 : callI TT 139 [.agg t] σ0 = some (.agg u, σ0)) (hu : u.length = 6) (s1 : storeCellsA σ0 0 0 u = some σ1) (l4 : cellsAt σ1 (.ptr 0 0) 6 = some u) :
    exI TT (FI.of Try.f76 (TT.an 76)) K76_0 [(0, .lst n cells), (1, .lst n2 cells2), (4, .ptr 0 0), (5, .sl b 0 m m), (6, .int .i64 n)] σ = some (.agg u, σ1) := by
  rw [fi76]
  conv => lhs; rw [xl76_0]
  simp only [B76_0, b76, Try.f76, Option.getD, fstC, sndC, bodyC, thnC, elsC]
  simp (maxSteps := 1000000) (disch := omega) [eK76_0_0, cellsAt, getCells, takeN, dropN, fieldAddrA, allOne, AV.one, n_push, storeCellsA, putN, overN, St.push, St.get, St.set, hget, hset, blt_dec, buildA, sizesOf, fillA, putCells, List.take_succ_cons, List.take_zero, List.drop_succ_cons, List.drop_zero, List.nil_append, List.cons_append, List.length_cons, List.length_nil, eqvs_dgs]
  simp only [R76_0_0, b76, Try.f76, Option.getD, fstC, sndC, bodyC, thnC, elsC]
  simp (maxSteps := 1000000) (disch := omega) [eK76_0_0, getCells, takeN, dropN, fieldAddrA, allOne, AV.one, n_push, putN, overN, blt_dec, buildA, sizesOf, fillA, putCells, List.take_succ_cons, List.take_zero, List.drop_succ_cons, List.drop_zero, List.nil_append, List.cons_append, List.length_cons, List.length_nil, eqvs_dgs, c1, c2, c3, hu, s1, l4]
set_option maxHeartbeats 4000000 in
theorem b76e (n n2 : Nat) (cells cells2 : List AV) (σ1 σ2 : St) (h1 : (⟨[], 0⟩ : St).push ⟨[.bool false, .nilS, .nilS, .bool false, .int .i64 0, .int .i64 0], 6, false⟩ = σ1) (c1 : buildSliceA TT σ1 101 0 [] = some (.sl 1 0 0 0, σ2)) :
    exI TT (FI.of Try.f76 (TT.an 76)) [.code b76] (paramsE 0 [.lst n cells, .lst n2 cells2]) ⟨[], 0⟩ = exI TT (FI.of Try.f76 (TT.an 76)) K76_0 [(0, .lst n cells), (1, .lst n2 cells2), (4, .ptr 0 0), (5, .sl 1 0 0 0), (6, .int .i64 0)] σ2 := by
  rw [fi76]
  simp only [b76, Try.f76, Option.getD, fstC, sndC, bodyC, thnC, elsC]
  simp (maxSteps := 1000000) (disch := omega) [eK76_0_0, getCells, takeN, dropN, fieldAddrA, allOne, AV.one, n_push, putN, overN, blt_dec, buildA, sizesOf, fillA, putCells, List.take_succ_cons, List.take_zero, List.drop_succ_cons, List.drop_zero, List.nil_append, List.cons_append, List.length_cons, List.length_nil, eqvs_dgs, h1, c1]
  rfl
theorem Bx.keep4 {σ σ' : St} {b c : Nat} {vs : List AV} (h : Bx σ c vs) (hc : c ≠ b) (k : ∀ x, x ≠ b → x < σ.n → σ'.get x = σ.get x) (hn : σ.n < σ'.n) : Bx σ' c vs := by
  obtain ⟨⟨m, hg⟩, hlt⟩ := h
  exact ⟨⟨m, by rw [k c hc hlt]; exact hg⟩, by omega⟩
theorem WS_frz (σ : St) (d : Nat) (l : List Wd) : mapO (frzV σ (d + 1)) (flat WC l) = some (flat WC l) := flat_frz (fun v => WC_frz σ d v) _
theorem l76 (p q : List Wd) (hpq : q.length = p.length) (k : Nat) (hp : ∀ x ∈ p, x.ok k) (hq : ∀ x ∈ q, x.ok k) (hk60 : 60 ≤ k) (hk : (p.length + 2) * (2 * k + 200) ≤ 80000000) : ∀ (m i b : Nat) (σ : St), i + m = p.length → 0 < b → RowE σ b 6 (flat WC (wdiffs p q i)) → (∃ z, Bx σ 0 z ∧ z.length = 6) →
    ∃ σ', exI TT (FI.of Try.f76 (TT.an 76)) K76_0 [(0, WS p), (1, WS q), (4, .ptr 0 0), (5, .sl b 0 i i), (6, .int .i64 i)] σ = some (WA (wdist p q), σ') := by
  have hkk : p.length * (2 * k + 200) + (4 * k + 400) ≤ 80000000 := by
    have e : (p.length + 2) * (2 * k + 200) = p.length * (2 * k + 200) + (4 * k + 400) := by rw [Nat.add_mul]; omega
    omega
  have hpl : p.length ≤ p.length * (2 * k + 200) := Nat.le_mul_of_pos_right _ (by omega)
  have hpm : p.length * (k + k + 121 + 1) ≤ p.length * (2 * k + 200) := Nat.mul_le_mul_left _ (by omega)
  intro m
  induction m with
  | zero =>
    intro i b σ hi hb0 hr hz
    obtain rfl : i = p.length := by omega
    obtain ⟨h1, h2⟩ := wdiffs_ok hpq hp hq p.length (Nat.le_refl _)
    have hs := r83 (wdiffs p q p.length) h1 (by rw [wdiffs_len]; omega)
    have hws : WS (wdiffs p q p.length) = .lst p.length (flat WC (wdiffs p q p.length)) := by rw [WS, wdiffs_len]
    rw [hws] at hs
    obtain ⟨σ0, cs, hbut⟩ := hs.rowE hr (by rw [flat_len WC_len, wdiffs_len]) (WS_frz σ 4 _) (flat_rows (fun _ => rfl) _) (Nat.le_refl _)
    obtain ⟨q1, o1⟩ := wsum_q h1
    rw [wdiffs_len] at o1
    obtain ⟨hh, hq2⟩ := half_ok
    obtain ⟨q2, o2⟩ := wmul_q o1 hh
    obtain ⟨z, hz, hzl⟩ := hz
    have hz0 := hz.but (b := b) (by omega) hbut
    have ch := (r142 o1 (by omega) (by omega)).pure σ0 rfl rfl
    have cl := (r139 o2 (by omega)).pure σ0 rfl rfl
    obtain ⟨σ1, a1, a2, a3⟩ := hz0.st (ws := WC (wdist p q)) (by rw [hzl]; rfl) (WC_one _)
    exact ⟨σ1, e76 p.length q.length b p.length (flat WC p) (flat WC q) _ _ _ σ σ0 σ1 cs ch cl rfl a1 (a2.rd rfl)⟩
  | succ m ih =>
    intro i b σ hi hb0 hr hz
    have hil : i < p.length := by omega
    have hiq : i < q.length := by omega
    have hvp := hp _ (List.getElem_mem hil)
    have hvq := hq _ (List.getElem_mem hiq)
    obtain ⟨n1, n2⟩ := neg1_q
    have co := fun σ : St => (r82 (n := -1) (d := 1) (by decide)).pure σ rfl rfl
    have cm := (r81 (n2.mono hk60) hvq (by omega)).pure σ rfl rfl
    obtain ⟨_, om⟩ := wmul_q n2 hvq
    have ca := (r141 (hvp.mono (show k ≤ 60 + k by omega)) om (by omega)).pure σ rfl rfl
    obtain ⟨_, oa⟩ := wsub_q hvp hvq
    have hcat : flat WC (wdiffs p q i) ++ WC (wdiff p[i] q[i]) = flat WC (wdiffs p q (i + 1)) := by
      rw [wdiffs, atW_of hil, atW_of hiq, flat_app]; simp [flat]
    have hi1 : ((i + 1 : Nat) : Int) = (i : Int) + 1 := by omega
    obtain ⟨z, hz, hzl⟩ := hz
    obtain ⟨σ2, a1, a2, a3, a4⟩ := new_box (σ := σ) (z := [.bool false, .nilS, .nilS, .bool false, .int .i64 0, .int .i64 0]) (x := WC (wadd p[i] (wmul (.f (-1) 1) q[i]))) (m := 6) rfl (WC_one _)
    have hr2 := hr.old a3
    have hz2 := hz.old a3
    have hneg : cellsAt σ2 (.ptr σ.n 0) 1 = some [.bool (wadd p[i] (wmul (.f (-1) 1) q[i])).neg] := by
      obtain ⟨⟨mm, hg⟩, _⟩ := a2
      simp [cellsAt, hg, getCells, dropN, takeN, WC]
    cases hng : (wadd p[i] (wmul (.f (-1) 1) q[i])).neg with
    | false =>
      rw [hng] at hneg
      have hd : wdiff p[i] q[i] = wadd p[i] (wmul (.f (-1) 1) q[i]) := by unfold wdiff; rw [if_neg (by rw [hng]; decide)]
      rw [hd] at hcat
      have c4 := build_el (T := TT) (σ := σ2) (st := 101) (w := WC (wadd p[i] (wmul (.f (-1) 1) q[i]))) ty101 ty99 (by decide) rfl rfl rfl
      obtain ⟨σ4, d1, d2, d3⟩ := append_el (T := TT) (st := 101) (n := i) ty101 ty99 (fun _ _ => trivial) (by decide) (WC_len (wadd p[i] (wmul (.f (-1) 1) q[i]))) (WC_one _) (by rw [flat_len WC_len, wdiffs_len]) hr2 (by omega)
      rw [hcat] at d2
      obtain ⟨σ', k1⟩ := ih (i + 1) (σ2.n + 1) σ4 (by omega) (by omega) d2 ⟨z, hz2.keep4 (by omega) d3 (Nat.lt_of_succ_lt d2.lt), hzl⟩
      rw [hi1] at k1
      refine ⟨σ', ?_⟩
      rw [← k1]
      exact s76p p.length i q.length b i (σ2.n + 1) (i + 1) (flat WC p) (flat WC q) (WC p[i]) (WC q[i]) _ _ _ σ σ2 _ σ4 hil hiq (WS_get hil σ) co (WS_get hiq σ) cm ca rfl (WC_eqv _) (WC_eqv _) a1 hneg (a2.rd rfl) c4 d1 (wrapA_id (by omega) (by omega))
    | true =>
      rw [hng] at hneg
      have hd : wdiff p[i] q[i] = wmul (.f (-1) 1) (wadd p[i] (wmul (.f (-1) 1) q[i])) := by unfold wdiff; rw [if_pos hng]
      rw [hd] at hcat
      have cm2 := (r81 (n2.mono (show 60 ≤ k + (60 + k) + 1 by omega)) oa (by omega)).pure σ2 rfl rfl
      obtain ⟨σ3, e1, e2, e3⟩ := a2.st (ws := WC (wmul (.f (-1) 1) (wadd p[i] (wmul (.f (-1) 1) q[i])))) rfl (WC_one _)
      have hbl := hr.lt
      have hzl0 := hz.lt
      have hr3 := hr2.but (by omega) e3
      have hz3 := hz2.but (by omega) e3
      have c4 := build_el (T := TT) (σ := σ3) (st := 101) (w := WC (wmul (.f (-1) 1) (wadd p[i] (wmul (.f (-1) 1) q[i])))) ty101 ty99 (by decide) rfl rfl rfl
      obtain ⟨σ4, d1, d2, d3⟩ := append_el (T := TT) (st := 101) (n := i) ty101 ty99 (fun _ _ => trivial) (by decide) (WC_len (wmul (.f (-1) 1) (wadd p[i] (wmul (.f (-1) 1) q[i])))) (WC_one _) (by rw [flat_len WC_len, wdiffs_len]) hr3 (by omega)
      rw [hcat] at d2
      obtain ⟨σ', k1⟩ := ih (i + 1) (σ3.n + 1) σ4 (by omega) (by omega) d2 ⟨z, hz3.keep4 (by omega) d3 (Nat.lt_of_succ_lt d2.lt), hzl⟩
      rw [hi1] at k1
      refine ⟨σ', ?_⟩
      rw [← k1]
      exact s76n p.length i q.length b i (σ3.n + 1) (i + 1) (flat WC p) (flat WC q) (WC p[i]) (WC q[i]) _ _ _ _ σ σ2 σ3 _ σ4 hil hiq (WS_get hil σ) co (WS_get hiq σ) cm ca rfl (WC_eqv _) (WC_eqv _) a1 hneg (a2.rd rfl) cm2 rfl e1 (e2.rd rfl) (WC_eqv _) c4 d1 (wrapA_id (by omega) (by omega))
theorem r76 (p q : List Wd) (hpq : q.length = p.length) (k : Nat) (hp : ∀ x ∈ p, x.ok k) (hq : ∀ x ∈ q, x.ok k) (hk60 : 60 ≤ k) (hk : (p.length + 2) * (2 * k + 200) ≤ 80000000) : FnF TT 76 [WS p, WS q] (WA (wdist p q)) := by
  have hb := build_e0 (T := TT) (σ := (⟨[], 0⟩ : St).push ⟨[.bool false, .nilS, .nilS, .bool false, .int .i64 0, .int .i64 0], 6, false⟩) (st := 101) ty101 ty99
  have hz : Bx ((⟨[], 0⟩ : St).push ⟨[.bool false, .nilS, .nilS, .bool false, .int .i64 0, .int .i64 0], 6, false⟩) 0 [.bool false, .nilS, .nilS, .bool false, .int .i64 0, .int .i64 0] := Bx.push
  obtain ⟨σ', k1⟩ := l76 p q hpq k hp hq hk60 hk p.length 0 1 _ (by omega) (by omega) (RowE.push (σ := (⟨[], 0⟩ : St).push ⟨[.bool false, .nilS, .nilS, .bool false, .int .i64 0, .int .i64 0], 6, false⟩) (cs := []) (e := 6) (o := false)) ⟨_, hz.old Old.push, rfl⟩
  refine FnF.mkv (c := b76) fn76 rfl md76 ⟨σ', ?_⟩ (fun _ => rfl)
  exact (b76e _ _ _ _ _ _ rfl hb).trans k1

set_option maxHeartbeats 4000000 in
theorem k27f1 (n n2 : Nat) (cells cells2 : List AV) (c1 : ∀ σ, callI TT 74 [.lst n cells] σ = some (.bool false, σ)) :
    ∃ σ', exI TT (FI.of Try.f27 (TT.an 27)) [.code (Try.f27.body.getD .skip)] (paramsE 0 [.lst n cells, .lst n2 cells2]) ⟨[], 0⟩ = some (.tup [.agg [.int .i64 0, .int .i64 0], .bool false], σ') := by
  refine ex1 ?_
  rw [fi27]
  simp only [Try.f27, Option.getD]
  simp (maxSteps := 1000000) (disch := omega) [cellsAt, getCells, takeN, dropN, fieldAddrA, allOne, AV.one, n_push, storeCellsA, putN, overN, St.push, St.get, St.set, hget, hset, blt_dec, buildA, sizesOf, fillA, putCells, List.take_succ_cons, List.take_zero, List.drop_succ_cons, List.drop_zero, List.nil_append, List.cons_append, List.length_cons, List.length_nil, eqvs_dgs, c1]
set_option maxHeartbeats 4000000 in
theorem k27f2 (n n2 : Nat) (cells cells2 : List AV) (c1 : ∀ σ, callI TT 74 [.lst n cells] σ = some (.bool true, σ)) (c2 : ∀ σ, callI TT 74 [.lst n2 cells2] σ = some (.bool false, σ)) :
    ∃ σ', exI TT (FI.of Try.f27 (TT.an 27)) [.code (Try.f27.body.getD .skip)] (paramsE 0 [.lst n cells, .lst n2 cells2]) ⟨[], 0⟩ = some (.tup [.agg [.int .i64 0, .int .i64 0], .bool false], σ') := by
  refine ex1 ?_
  rw [fi27]
  simp only [Try.f27, Option.getD]
  simp (maxSteps := 1000000) (disch := omega) [cellsAt, getCells, takeN, dropN, fieldAddrA, allOne, AV.one, n_push, storeCellsA, putN, overN, St.push, St.get, St.set, hget, hset, blt_dec, buildA, sizesOf, fillA, putCells, List.take_succ_cons, List.take_zero, List.drop_succ_cons, List.drop_zero, List.nil_append, List.cons_append, List.length_cons, List.length_nil, eqvs_dgs, c1, c2]
set_option maxHeartbeats 4000000 in
theorem k27f3 (n n2 : Nat) (cells cells2 : List AV) (c1 : ∀ σ, callI TT 74 [.lst n cells] σ = some (.bool true, σ)) (c2 : ∀ σ, callI TT 74 [.lst n2 cells2] σ = some (.bool true, σ)) (h0 : ieqb (n : Int) n2 = false) :
    ∃ σ', exI TT (FI.of Try.f27 (TT.an 27)) [.code (Try.f27.body.getD .skip)] (paramsE 0 [.lst n cells, .lst n2 cells2]) ⟨[], 0⟩ = some (.tup [.agg [.int .i64 0, .int .i64 0], .bool false], σ') := by
  refine ex1 ?_
  rw [fi27]
  simp only [Try.f27, Option.getD]
  simp (maxSteps := 1000000) (disch := omega) [cellsAt, getCells, takeN, dropN, fieldAddrA, allOne, AV.one, n_push, storeCellsA, putN, overN, St.push, St.get, St.set, hget, hset, blt_dec, buildA, sizesOf, fillA, putCells, List.take_succ_cons, List.take_zero, List.drop_succ_cons, List.drop_zero, List.nil_append, List.cons_append, List.length_cons, List.length_nil, eqvs_dgs, c1, c2, h0]
theorem k27f (n n2 : Nat) (cells cells2 : List AV) (b1 b2 : Bool) (c1 : ∀ σ, callI TT 74 [.lst n cells] σ = some (.bool b1, σ)) (c2 : ∀ σ, callI TT 74 [.lst n2 cells2] σ = some (.bool b2, σ)) (h0 : b1 = true → b2 = true → ieqb (n : Int) n2 = false) : ∃ σ', exI TT (FI.of Try.f27 (TT.an 27)) [.code (Try.f27.body.getD .skip)] (paramsE 0 [.lst n cells, .lst n2 cells2]) ⟨[], 0⟩ = some (.tup [.agg [.int .i64 0, .int .i64 0], .bool false], σ') := by
  cases b1 with
  | false => exact k27f1 n n2 cells cells2 c1
  | true => cases b2 with
    | false => exact k27f2 n n2 cells cells2 c1 c2
    | true => exact k27f3 n n2 cells cells2 c1 c2 (h0 rfl rfl)
set_option maxHeartbeats 4000000 in
theorem k27t (n : Nat) (cells cells2 w1 w2 t : List AV) (a b : Int) (c : Bool) (c1 : ∀ σ, callI TT 74 [.lst n cells] σ = some (.bool true, σ)) (c2 : ∀ σ, callI TT 74 [.lst n cells2] σ = some (.bool true, σ)) (c3 : ∀ σ, callI TT 77 [.lst n cells] σ = some (.lst n w1, σ)) (c4 : ∀ σ, callI TT 77 [.lst n cells2] σ = some (.lst n w2, σ)) (c5 : ∀ σ, callI TT 76 [.lst n w1, .lst n w2] σ = some (.agg t, σ)) (c6 : ∀ σ, callI TT 75 [.agg t] σ = some (.tup [.agg [.int .i64 a, .int .i64 b], .bool c], σ)) :
    ∃ σ', exI TT (FI.of Try.f27 (TT.an 27)) [.code (Try.f27.body.getD .skip)] (paramsE 0 [.lst n cells, .lst n cells2]) ⟨[], 0⟩ = some (.tup [.agg [.int .i64 a, .int .i64 b], .bool c], σ') := by
  refine ex1 ?_
  rw [fi27]
  simp only [Try.f27, Option.getD]
  simp (maxSteps := 1000000) (disch := omega) [cellsAt, getCells, takeN, dropN, fieldAddrA, allOne, AV.one, n_push, storeCellsA, putN, overN, St.push, St.get, St.set, hget, hset, blt_dec, buildA, sizesOf, fillA, putCells, List.take_succ_cons, List.take_zero, List.drop_succ_cons, List.drop_zero, List.nil_append, List.cons_append, List.length_cons, List.length_nil, eqvs_dgs, c1, c2, c3, c4, c5, c6]
set_option maxHeartbeats 4000000 in
theorem k28f1 (n n2 : Nat) (cells cells2 : List AV) (c1 : ∀ σ, callI TT 67 [.lst n cells] σ = some (.bool false, σ)) :
    ∃ σ', exI TT (FI.of Try.f28 (TT.an 28)) [.code (Try.f28.body.getD .skip)] (paramsE 0 [.lst n cells, .lst n2 cells2]) ⟨[], 0⟩ = some (.tup [.agg [.int .i64 0, .int .i64 0], .bool false], σ') := by
  refine ex1 ?_
  rw [fi28]
  simp only [Try.f28, Option.getD]
  simp (maxSteps := 1000000) (disch := omega) [cellsAt, getCells, takeN, dropN, fieldAddrA, allOne, AV.one, n_push, storeCellsA, putN, overN, St.push, St.get, St.set, hget, hset, blt_dec, buildA, sizesOf, fillA, putCells, List.take_succ_cons, List.take_zero, List.drop_succ_cons, List.drop_zero, List.nil_append, List.cons_append, List.length_cons, List.length_nil, eqvs_dgs, c1]
set_option maxHeartbeats 4000000 in
theorem k28f2 (n n2 : Nat) (cells cells2 : List AV) (c1 : ∀ σ, callI TT 67 [.lst n cells] σ = some (.bool true, σ)) (c2 : ∀ σ, callI TT 67 [.lst n2 cells2] σ = some (.bool false, σ)) :
    ∃ σ', exI TT (FI.of Try.f28 (TT.an 28)) [.code (Try.f28.body.getD .skip)] (paramsE 0 [.lst n cells, .lst n2 cells2]) ⟨[], 0⟩ = some (.tup [.agg [.int .i64 0, .int .i64 0], .bool false], σ') := by
  refine ex1 ?_
  rw [fi28]
  simp only [Try.f28, Option.getD]
  simp (maxSteps := 1000000) (disch := omega) [cellsAt, getCells, takeN, dropN, fieldAddrA, allOne, AV.one, n_push, storeCellsA, putN, overN, St.push, St.get, St.set, hget, hset, blt_dec, buildA, sizesOf, fillA, putCells, List.take_succ_cons, List.take_zero, List.drop_succ_cons, List.drop_zero, List.nil_append, List.cons_append, List.length_cons, List.length_nil, eqvs_dgs, c1, c2]
set_option maxHeartbeats 4000000 in
theorem k28f3 (n n2 : Nat) (cells cells2 : List AV) (c1 : ∀ σ, callI TT 67 [.lst n cells] σ = some (.bool true, σ)) (c2 : ∀ σ, callI TT 67 [.lst n2 cells2] σ = some (.bool true, σ)) (h0 : ieqb (n : Int) n2 = false) :
    ∃ σ', exI TT (FI.of Try.f28 (TT.an 28)) [.code (Try.f28.body.getD .skip)] (paramsE 0 [.lst n cells, .lst n2 cells2]) ⟨[], 0⟩ = some (.tup [.agg [.int .i64 0, .int .i64 0], .bool false], σ') := by
  refine ex1 ?_
  rw [fi28]
  simp only [Try.f28, Option.getD]
  simp (maxSteps := 1000000) (disch := omega) [cellsAt, getCells, takeN, dropN, fieldAddrA, allOne, AV.one, n_push, storeCellsA, putN, overN, St.push, St.get, St.set, hget, hset, blt_dec, buildA, sizesOf, fillA, putCells, List.take_succ_cons, List.take_zero, List.drop_succ_cons, List.drop_zero, List.nil_append, List.cons_append, List.length_cons, List.length_nil, eqvs_dgs, c1, c2, h0]
theorem k28f (n n2 : Nat) (cells cells2 : List AV) (b1 b2 : Bool) (c1 : ∀ σ, callI TT 67 [.lst n cells] σ = some (.bool b1, σ)) (c2 : ∀ σ, callI TT 67 [.lst n2 cells2] σ = some (.bool b2, σ)) (h0 : b1 = true → b2 = true → ieqb (n : Int) n2 = false) : ∃ σ', exI TT (FI.of Try.f28 (TT.an 28)) [.code (Try.f28.body.getD .skip)] (paramsE 0 [.lst n cells, .lst n2 cells2]) ⟨[], 0⟩ = some (.tup [.agg [.int .i64 0, .int .i64 0], .bool false], σ') := by
  cases b1 with
  | false => exact k28f1 n n2 cells cells2 c1
  | true => cases b2 with
    | false => exact k28f2 n n2 cells cells2 c1 c2
    | true => exact k28f3 n n2 cells cells2 c1 c2 (h0 rfl rfl)
set_option maxHeartbeats 4000000 in
theorem k28t (n : Nat) (cells cells2 w1 w2 t : List AV) (a b : Int) (c : Bool) (c1 : ∀ σ, callI TT 67 [.lst n cells] σ = some (.bool true, σ)) (c2 : ∀ σ, callI TT 67 [.lst n cells2] σ = some (.bool true, σ)) (c3 : ∀ σ, callI TT 79 [.lst n cells] σ = some (.lst n w1, σ)) (c4 : ∀ σ, callI TT 79 [.lst n cells2] σ = some (.lst n w2, σ)) (c5 : ∀ σ, callI TT 78 [.lst n w1, .lst n w2] σ = some (.agg t, σ)) (c6 : ∀ σ, callI TT 80 [.agg t] σ = some (.tup [.agg [.int .i64 a, .int .i64 b], .bool c], σ)) :
    ∃ σ', exI TT (FI.of Try.f28 (TT.an 28)) [.code (Try.f28.body.getD .skip)] (paramsE 0 [.lst n cells, .lst n cells2]) ⟨[], 0⟩ = some (.tup [.agg [.int .i64 a, .int .i64 b], .bool c], σ') := by
  refine ex1 ?_
  rw [fi28]
  simp only [Try.f28, Option.getD]
  simp (maxSteps := 1000000) (disch := omega) [cellsAt, getCells, takeN, dropN, fieldAddrA, allOne, AV.one, n_push, storeCellsA, putN, overN, St.push, St.get, St.set, hget, hset, blt_dec, buildA, sizesOf, fillA, putCells, List.take_succ_cons, List.take_zero, List.drop_succ_cons, List.drop_zero, List.nil_append, List.cons_append, List.length_cons, List.length_nil, eqvs_dgs, c1, c2, c3, c4, c5, c6]
def frF : AV := .tup [.agg [.int .i64 0, .int .i64 0], .bool false]
theorem frA_is (q : Rat) : ∃ a b c, frA q = .tup [.agg [.int .i64 a, .int .i64 b], .bool c] := by
  unfold frA
  split <;> exact ⟨_, _, _, rfl⟩
theorem frA_frz (q : Rat) (σ : St) : frzV σ frzDepth (frA q) = some (frA q) := by
  obtain ⟨a, b, c, h⟩ := frA_is q
  rw [h]; rfl
theorem frA_scal (q : Rat) : (frA q).scal = true := by
  obtain ⟨a, b, c, h⟩ := frA_is q
  rw [h]; rfl
def valDist (l l2 : List (Int × Int)) : AV := if (isCh l && (isCh l2 && decide (l.length = l2.length))) = true then frA (distQ (l.map rq) (l2.map rq)) else frF
theorem isR6 (l l2 : List (Int × Int)) : ∃ a b c, valDist l l2 = .tup [.agg [.int .i64 a, .int .i64 b], .bool c] := by
  unfold valDist
  split
  · exact frA_is _
  · exact ⟨_, _, _, rfl⟩
theorem isCh_b {l : List (Int × Int)} (h : isCh l = true) : 1 ≤ l.length ∧ l.length ≤ 16 ∧ vfl l = true ∧ (∀ x ∈ l, 0 ≤ x.1) ∧ sumQ l = 1 := by
  simp only [isCh, Bool.and_eq_true, decide_eq_true_eq, List.all_eq_true] at h
  exact ⟨h.1.1, h.1.2, h.2.1, h.2.2.1, h.2.2.2⟩
theorem rq_bds {l : List (Int × Int)} (h : vfl l = true) : ∀ x ∈ l.map rq, Bd 60 x := by
  intro x hx
  obtain ⟨y, hy, rfl⟩ := List.mem_map.1 hx
  simp only [vfl, List.all_eq_true] at h
  exact rq_bd (h y hy)
theorem distQ_bd {p q : List Rat} {k : Nat} (hpq : q.length = p.length) (hp : ∀ x ∈ p, Bd k x) (hq : ∀ x ∈ q, Bd k x) : Bd (4 + p.length * (2 * k + 2)) (distQ p q) := by
  have h : ∀ n, n ≤ p.length → Bd (2 + n * (2 * k + 2)) (sumI (adQ p q) n) := by
    intro n
    induction n with
    | zero => intro _; exact (show Bd 2 (0 : Rat) from ⟨by decide +kernel, by decide +kernel⟩).mono (by omega)
    | succ n ih =>
      intro hn
      have h1 : n < p.length := by omega
      have h2 : n < q.length := by omega
      rw [sumI, adQ_of h1 h2]
      exact ((ih (by omega)).add ((hp _ (List.getElem_mem h1)).sub (hq _ (List.getElem_mem h2))).abs).mono (by rw [Nat.add_mul]; omega)
  have h2 : Bd 2 ((2 : Rat)⁻¹) := ⟨by decide +kernel, by decide +kernel⟩
  rw [distQ, Rat.div_def]
  exact ((h p.length (Nat.le_refl _)).mul h2).mono (by omega)
theorem r28 (l l2 : List (Int × Int)) (hs : l.length ≤ 10000000) (hs2 : l2.length ≤ 10000000) : FnV TT 28 [FS l, FS l2] (valDist l l2) := by
  have c1 := fun σ : St => r67 l hs σ [FS l] rfl
  have c2 := fun σ : St => r67 l2 hs2 σ [FS l2] rfl
  unfold valDist
  by_cases h : isCh l = true ∧ isCh l2 = true ∧ l.length = l2.length
  · obtain ⟨h1, h2, h3⟩ := h
    rw [if_pos (by simp [h1, h2, h3])]
    rw [h1] at c1
    rw [h2] at c2
    obtain ⟨a1, a2, a3, _, _⟩ := isCh_b h1
    obtain ⟨b1, b2, b3, _, _⟩ := isCh_b h2
    have c3 := r79 l a3 (by omega)
    have c4 := r79 l2 b3 (by omega)
    have hlen : (l2.map rq).length = (l.map rq).length := by simp [h3]
    have hll : (l.map rq).length = l.length := by simp
    have hmul : (l.length + 1) * (2 * 60 + 3) ≤ 17 * 123 := Nat.mul_le_mul (by omega) (by decide)
    have c5 := r78 (l.map rq) (l2.map rq) hlen 60 (rq_bds a3) (rq_bds b3) (by rw [hll]; omega)
    have hmul2 : l.length * (2 * 60 + 2) ≤ 16 * 122 := Nat.mul_le_mul a2 (by decide)
    have c6 := r80 (distQ_bd hlen (rq_bds a3) (rq_bds b3)) (by rw [hll]; omega)
    generalize distQ (l.map rq) (l2.map rq) = d at *
    have f1 := frA_frz d
    have f2 := frA_scal d
    obtain ⟨a, b, c, hR⟩ := frA_is d
    rw [hR] at c6 f1 f2 ⊢
    have e1 : RS (l.map rq) = .lst l.length (flat RC (l.map rq)) := by simp [RS]
    have e2 : RS (l2.map rq) = .lst l.length (flat RC (l2.map rq)) := by simp [RS, h3]
    rw [e1] at c3 c5
    rw [e2] at c4 c5
    have e3 : FS l2 = .lst l.length (flat FC l2) := by rw [FS, h3]
    rw [e3] at c2 c4 ⊢
    exact FnV.mk fn28 rfl md28 (k28t l.length (flat FC l) (flat FC l2) _ _ _ a b c c1 c2 (fun σ => c3.pure σ rfl rfl) (fun σ => c4.pure σ rfl rfl) (fun σ => c5.pure σ rfl rfl) (fun σ => c6 σ _ rfl)) f1 f2
  · rw [if_neg (by simpa using h)]
    exact FnV.mk fn28 rfl md28 (k28f _ _ _ _ _ _ c1 c2 (fun h1 h2 => ieqb_f fun h3 => h ⟨h1, h2, by omega⟩)) (fun _ => rfl) rfl
theorem map_wof_q (l : List (Int × Int)) : (l.map wof).map Wd.q = l.map rq := by
  rw [List.map_map]
  exact List.map_congr_left fun x _ => Wd.q_f _ _
theorem r27 (l l2 : List (Int × Int)) (hs : l.length ≤ 10000000) (hs2 : l2.length ≤ 10000000) : FnV TT 27 [FS l, FS l2] (valDist l l2) := by
  have c1 := fun σ : St => r74 l hs σ [FS l] rfl
  have c2 := fun σ : St => r74 l2 hs2 σ [FS l2] rfl
  unfold valDist
  by_cases h : isCh l = true ∧ isCh l2 = true ∧ l.length = l2.length
  · obtain ⟨h1, h2, h3⟩ := h
    rw [if_pos (by simp [h1, h2, h3])]
    rw [h1] at c1
    rw [h2] at c2
    obtain ⟨a1, a2, a3, _, _⟩ := isCh_b h1
    obtain ⟨b1, b2, b3, _, _⟩ := isCh_b h2
    have c3 := r77 l a3 (by omega)
    have c4 := r77 l2 b3 (by omega)
    have hlen : (l2.map wof).length = (l.map wof).length := by simp [h3]
    have hll : (l.map wof).length = l.length := by simp
    have hmul : (l.length + 2) * (2 * 60 + 200) ≤ 18 * 320 := Nat.mul_le_mul (by omega) (by decide)
    have c5 := r76 (l.map wof) (l2.map wof) hlen 60 (wof_ok a3) (wof_ok b3) (by decide) (by rw [hll]; omega)
    have hmul2 : l.length * (60 + 60 + 122) ≤ 16 * 242 := Nat.mul_le_mul a2 (by decide)
    obtain ⟨q1, o1⟩ := wdist_q hlen (wof_ok a3) (wof_ok b3)
    have c6 := r75 o1 (by rw [hll]; omega)
    rw [q1, map_wof_q, map_wof_q] at c6
    generalize distQ (l.map rq) (l2.map rq) = d at *
    have f1 := frA_frz d
    have f2 := frA_scal d
    obtain ⟨a, b, c, hR⟩ := frA_is d
    rw [hR] at c6 f1 f2 ⊢
    have e1 : Go.Proofs.Ytihoeimlkbjgmaa.WS (l.map wof) = .lst l.length (flat WC (l.map wof)) := by simp [Go.Proofs.Ytihoeimlkbjgmaa.WS]
    have e2 : Go.Proofs.Ytihoeimlkbjgmaa.WS (l2.map wof) = .lst l.length (flat WC (l2.map wof)) := by simp [Go.Proofs.Ytihoeimlkbjgmaa.WS, h3]
    rw [e1] at c3 c5
    rw [e2] at c4 c5
    have e3 : FS l2 = .lst l.length (flat FC l2) := by rw [FS, h3]
    rw [e3] at c2 c4 ⊢
    exact FnV.mk fn27 rfl md27 (k27t l.length (flat FC l) (flat FC l2) _ _ _ a b c c1 c2 (fun σ => c3.pure σ rfl rfl) (fun σ => c4.pure σ rfl rfl) (fun σ => c5.pure σ rfl rfl) (fun σ => c6 σ _ rfl)) f1 f2
  · rw [if_neg (by simpa using h)]
    exact FnV.mk fn27 rfl md27 (k27f _ _ _ _ _ _ c1 c2 (fun h1 h2 => ieqb_f fun h3 => h ⟨h1, h2, by omega⟩)) (fun _ => rfl) rfl

set_option maxHeartbeats 4000000 in
theorem z6_1 (n1 n2 : Nat) (cells1 cells2 : List AV) (z1 : ∀ σ, callI TT 14 [.lst n1 cells1, .int .i64 1048576] σ = some (.int .i64 (-1), σ)) :
    ∃ σ', exI TT (FI.of Try.f6 (TT.an 6)) [.code (Try.f6.body.getD .skip)] (paramsE 0 [.lst n1 cells1, .lst n2 cells2]) ⟨[], 0⟩ = some (.bool true, σ') := by
  refine ex1 ?_
  rw [fi6]
  simp only [Try.f6, Option.getD]
  simp (maxSteps := 1000000) (disch := omega) [cellsAt, getCells, takeN, dropN, fieldAddrA, allOne, AV.one, n_push, storeCellsA, putN, overN, St.push, St.get, St.set, hget, hset, blt_dec, buildA, sizesOf, fillA, putCells, List.take_succ_cons, List.take_zero, List.drop_succ_cons, List.drop_zero, List.nil_append, List.cons_append, List.length_cons, List.length_nil, eqvs_dgs, z1]
set_option maxHeartbeats 4000000 in
theorem z6_2 (n1 n2 : Nat) (cells1 cells2 : List AV) (k1 : Int) (z1 : ∀ σ, callI TT 14 [.lst n1 cells1, .int .i64 1048576] σ = some (.int .i64 k1, σ)) (hk1 : 0 ≤ k1) (z2 : ∀ σ, callI TT 14 [.lst n2 cells2, .int .i64 k1] σ = some (.int .i64 (-1), σ)) :
    ∃ σ', exI TT (FI.of Try.f6 (TT.an 6)) [.code (Try.f6.body.getD .skip)] (paramsE 0 [.lst n1 cells1, .lst n2 cells2]) ⟨[], 0⟩ = some (.bool true, σ') := by
  refine ex1 ?_
  rw [fi6]
  simp only [Try.f6, Option.getD]
  simp (maxSteps := 1000000) (disch := omega) [cellsAt, getCells, takeN, dropN, fieldAddrA, allOne, AV.one, n_push, storeCellsA, putN, overN, St.push, St.get, St.set, hget, hset, blt_dec, buildA, sizesOf, fillA, putCells, List.take_succ_cons, List.take_zero, List.drop_succ_cons, List.drop_zero, List.nil_append, List.cons_append, List.length_cons, List.length_nil, eqvs_dgs, z1, hk1, z2]
set_option maxHeartbeats 4000000 in
theorem k6 (n1 n2 : Nat) (cells1 cells2 : List AV) (k1 : Int) (k2 : Int) (a b : Int) (c : Bool) (z1 : ∀ σ, callI TT 14 [.lst n1 cells1, .int .i64 1048576] σ = some (.int .i64 k1, σ)) (hk1 : 0 ≤ k1) (z2 : ∀ σ, callI TT 14 [.lst n2 cells2, .int .i64 k1] σ = some (.int .i64 k2, σ)) (hk2 : 0 ≤ k2) (t1 : ∀ σ, callI TT 16 [.lst n1 cells1] σ = some (.lst n1 cells1, σ)) (e1 : ∀ σ, callI TT 18 [.lst n1 cells1, .lst n1 cells1] σ = some (.bool true, σ)) (t2 : ∀ σ, callI TT 16 [.lst n2 cells2] σ = some (.lst n2 cells2, σ)) (e2 : ∀ σ, callI TT 18 [.lst n2 cells2, .lst n2 cells2] σ = some (.bool true, σ)) (cS : ∀ σ, callI TT 27 [.lst n1 cells1, .lst n2 cells2] σ = some (.tup [.agg [.int .i64 a, .int .i64 b], .bool c], σ)) (cI : ∀ σ, callI TT 28 [.lst n1 cells1, .lst n2 cells2] σ = some (.tup [.agg [.int .i64 a, .int .i64 b], .bool c], σ)) (cE : ∀ σ, callI TT 26 [.agg [.int .i64 a, .int .i64 b], .agg [.int .i64 a, .int .i64 b]] σ = some (.bool true, σ)) :
    ∃ σ', exI TT (FI.of Try.f6 (TT.an 6)) [.code (Try.f6.body.getD .skip)] (paramsE 0 [.lst n1 cells1, .lst n2 cells2]) ⟨[], 0⟩ = some (.bool true, σ') := by
  refine ex1 ?_
  rw [fi6]
  simp only [Try.f6, Option.getD]
  cases c <;>
  simp (maxSteps := 1000000) (disch := omega) [cellsAt, getCells, takeN, dropN, fieldAddrA, allOne, AV.one, n_push, storeCellsA, putN, overN, St.push, St.get, St.set, hget, hset, blt_dec, buildA, sizesOf, fillA, putCells, List.take_succ_cons, List.take_zero, List.drop_succ_cons, List.drop_zero, List.nil_append, List.cons_append, List.length_cons, List.length_nil, eqvs_dgs, z1, hk1, z2, hk2, t1, e1, t2, e2, cS, cI, cE]
theorem w6 (l1 : List (Int × Int)) (hl1 : l1.length ≤ maxLen) (l2 : List (Int × Int)) (hl2 : l2.length ≤ maxLen) : FnV TT 6 [FS l1, FS l2] (.bool true) := by
  have hm1 : l1.length ≤ 9223372036854775807 := by unfold maxLen at hl1; omega
  have hm2 : l2.length ≤ 9223372036854775807 := by unfold maxLen at hl2; omega
  have c1 := fun σ : St => r14 l1 (1048576) (Nat.le_refl _) hm1 σ [FS l1, .int .i64 ((1048576 : Nat) : Int)] rfl
  by_cases hb1 : (1048576) < l1.length
  · rw [if_pos hb1] at c1
    exact FnV.mk fn6 rfl md6 (z6_1 _ _ _ _   c1) (fun _ => rfl) rfl
  · rw [if_neg hb1] at c1
    have q1 : (((1048576 : Nat)) : Int) - (l1.length : Int) = (((1048576) - l1.length : Nat) : Int) := by omega
    rw [q1] at c1
    have c2 := fun σ : St => r14 l2 (1048576 - l1.length) ((by omega)) hm2 σ [FS l2, .int .i64 ((1048576 - l1.length : Nat) : Int)] rfl
    by_cases hb2 : (1048576 - l1.length) < l2.length
    · rw [if_pos hb2] at c2
      exact FnV.mk fn6 rfl md6 (z6_2 _ _ _ _ _ c1 (by omega) c2) (fun _ => rfl) rfl
    · rw [if_neg hb2] at c2
      have q2 : (((1048576 - l1.length : Nat)) : Int) - (l2.length : Int) = (((1048576 - l1.length) - l2.length : Nat) : Int) := by omega
      rw [q2] at c2
      have hs1 : l1.length ≤ 1048576 := by omega
      have hz1 : l1.length ≤ 10000000 := by omega
      have hs2 : l2.length ≤ 1048576 := by omega
      have hz2 : l2.length ≤ 10000000 := by omega
      have hS := r27 l1 l2 hz1 hz2
      have hI := r28 l1 l2 hz1 hz2
      obtain ⟨a, b, c, hR⟩ := isR6 l1 l2
      rw [hR] at hS hI
      exact FnV.mk fn6 rfl md6 (k6 _ _ _ _ _ _ _ _ _ c1 (by omega) c2 (by omega) (fun σ => (r16 l1 hz1).pure σ rfl rfl) (fun σ => r18 l1 hz1 σ [FS l1, FS l1] rfl) (fun σ => (r16 l2 hz2).pure σ rfl rfl) (fun σ => r18 l2 hz2 σ [FS l2, FS l2] rfl) (fun σ => hS σ [FS l1, FS l2] rfl) (fun σ => hI σ [FS l1, FS l2] rfl) (fun σ => r26 a b σ [.agg [.int .i64 a, .int .i64 b], .agg [.int .i64 a, .int .i64 b]] rfl)) (fun _ => rfl) rfl

end Go.Proofs.Ytihoeimlkbjgmaa
