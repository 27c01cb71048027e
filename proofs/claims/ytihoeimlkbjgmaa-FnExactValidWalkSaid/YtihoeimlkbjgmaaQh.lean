/- Numbers of any size, fractions, chances: contracts. Nothing is claimed here; no condition. -/
import Derived.Test.YtihoeimlkbjgmaaQf
set_option linter.unusedSimpArgs false
set_option linter.unusedVariables false
namespace Go.Proofs.Ytihoeimlkbjgmaa
open Go Go.Abs Go.Nm
attribute [local simp] xI_seq xI_region xI_ret regA regOps runOps opStep wantedA opA evo evos calleeA lk nif_eq putE paramsE valS val2 keepE restrict finA resA binA binInt ofConst ofConst1 loadA TK.isAgg asVar unA builtinA lenOpA lenA indexAddrA evPairs storeA AV.cellsOf pairsOf xI_nil binBool gcE evOpt runTr pairsOk pairOk sameVal AV.eqv lastOf lstAt eqvs boundA indexA regF twoOf prsOf memI runTrF selF runTr2 freshOp scals AV.scal xI_block xI_loopH xI_condM xI_exitM xI_skip xI_blk exitA List.getElem?_cons_zero List.getElem?_cons_succ List.getElem?_toArray List.getElem?_nil ileb_t ileb_f ieqb_t ieqb_f inB_t wrapA_id lp_read ieqb_self Nat.blt_eq cond_true cond_false ty2 ty3 ty4 ty22 ty25 ty29 ty31 ty34 ty36 ty41 ty58 ty76 ty90 ty92 ty97 ty99 ty101 ty104
/-- Lists of lists. -/
def F1 (r : List (Int × Int)) : List AV := [FS r]
def FSS (ls : List (List (Int × Int))) : AV := .lst ls.length (flat F1 ls)
theorem F1_len (r : List (Int × Int)) : (F1 r).length = 1 := rfl
theorem flat1_get {α : Type} {f : α → AV} {l : List α} {i : Nat} (h : i < l.length) (σ : St) : cellsAt σ (.lp (flat (fun x => [f x]) l) i) 1 = some [f l[i]] := by
  have := flat_get (f := fun x => [f x]) (w := 1) (fun _ => rfl) l i _ (List.getElem?_eq_getElem h)
  rw [Nat.mul_one] at this
  exact this
theorem FSS_get {ls : List (List (Int × Int))} {i : Nat} (h : i < ls.length) (σ : St) : cellsAt σ (.lp (flat F1 ls) i) 1 = some [FS ls[i]] := flat1_get h σ
theorem FSS_eqv (ls : List (List (Int × Int))) : True := trivial
theorem build_v {T : Tab} {σ : St} {st e : TypeId} {k : TK} {y : Nat} {z : List AV} {v : AV} (ht : T.ty st = some ⟨.slice e, 1, 24, [.nilS]⟩) (he : T.ty e = some ⟨k, 1, y, z⟩) (hv : v.cellsOf = [v]) (hz : z.length = 1) (h1 : v.one = true) : buildSliceA T σ st 1 [(0, v)] = some (.sl σ.n 0 1 1, σ.push ⟨[v], 1, false⟩) := by
  have hp : putCells (z ++ []) (0 * 1) [v] = [v] := by
    rw [List.append_nil, Nat.zero_mul, putCells, List.take_zero, List.nil_append, Nat.zero_add, List.drop_of_length_le (by simp [hz]), List.append_nil]
  simp only [buildSliceA, ht, he, repeatCells, fillA, hv]
  rw [if_pos (by omega)]
  rw [List.append_nil, Nat.zero_mul] at hp
  simp [allOne, h1, hz, hp]

noncomputable def b60 : Code := Try.f60.body.getD .skip
noncomputable def B60_0 : Code := (bodyC (bodyC (sndC (fstC (sndC (sndC (sndC b60)))))))
noncomputable def K60_0 : List It := .lp B60_0 :: .blk 0 :: .code (sndC (sndC (sndC (sndC b60)))) :: []
theorem xl60_0 {fi : FI} {env : Env} {σ : St} : exI TT fi K60_0 env σ = exI TT fi (.code B60_0 :: K60_0) env σ := by unfold K60_0; exact xI_lp
noncomputable def R60_0_0 : List It := .code (sndC (sndC (sndC (sndC b60)))) :: []
theorem eK60_0_0 : exitA 0 K60_0 = some R60_0_0 := rfl
set_option maxHeartbeats 4000000 in
theorem s60p (n i m : Nat) (cells r : List AV) (k z : Int) (σ : St) (hi : i < n) (l1 : cellsAt σ (.lp cells i) 1 = some [.lst m r]) (c1 : callI TT 14 [.lst m r, .int .i64 k] σ = some (.int .i64 z, σ)) (hz : 0 ≤ z) (hw : wrapA .i64 ((i : Int) + 1) = (i : Int) + 1) :
    exI TT (FI.of Try.f60 (TT.an 60)) K60_0 [(0, .lst n cells), (1, .int .i64 k), (5, .int .i64 i)] σ = exI TT (FI.of Try.f60 (TT.an 60)) K60_0 [(0, .lst n cells), (1, .int .i64 z), (5, .int .i64 ((i : Int) + 1))] σ := by
  rw [fi60]
  conv => lhs; rw [xl60_0]
  simp only [B60_0, b60, Try.f60, Option.getD, fstC, sndC, bodyC, thnC, elsC]
  simp (maxSteps := 1000000) (disch := omega) [eK60_0_0, getCells, takeN, dropN, fieldAddrA, allOne, AV.one, n_push, putN, overN, blt_dec, buildA, sizesOf, fillA, putCells, List.take_succ_cons, List.take_zero, List.drop_succ_cons, List.drop_zero, List.nil_append, List.cons_append, List.length_cons, List.length_nil, eqvs_dgs, hi, l1, c1, hz, hw]
set_option maxHeartbeats 4000000 in
theorem s60n (n i m : Nat) (cells r : List AV) (k z : Int) (σ : St) (hi : i < n) (l1 : cellsAt σ (.lp cells i) 1 = some [.lst m r]) (c1 : callI TT 14 [.lst m r, .int .i64 k] σ = some (.int .i64 z, σ)) (hz : z < 0) :
    exI TT (FI.of Try.f60 (TT.an 60)) K60_0 [(0, .lst n cells), (1, .int .i64 k), (5, .int .i64 i)] σ = some (.int .i64 (-1), σ) := by
  rw [fi60]
  conv => lhs; rw [xl60_0]
  simp only [B60_0, b60, Try.f60, Option.getD, fstC, sndC, bodyC, thnC, elsC]
  simp (maxSteps := 1000000) (disch := omega) [eK60_0_0, getCells, takeN, dropN, fieldAddrA, allOne, AV.one, n_push, putN, overN, blt_dec, buildA, sizesOf, fillA, putCells, List.take_succ_cons, List.take_zero, List.drop_succ_cons, List.drop_zero, List.nil_append, List.cons_append, List.length_cons, List.length_nil, eqvs_dgs, hi, l1, c1, hz]
set_option maxHeartbeats 4000000 in
theorem e60 (n : Nat) (cells : List AV) (k : Int) (σ : St)  :
    exI TT (FI.of Try.f60 (TT.an 60)) K60_0 [(0, .lst n cells), (1, .int .i64 k), (5, .int .i64 n)] σ = some (.int .i64 k, σ) := by
  rw [fi60]
  conv => lhs; rw [xl60_0]
  simp only [B60_0, b60, Try.f60, Option.getD, fstC, sndC, bodyC, thnC, elsC]
  simp (maxSteps := 1000000) (disch := omega) [eK60_0_0, cellsAt, getCells, takeN, dropN, fieldAddrA, allOne, AV.one, n_push, storeCellsA, putN, overN, St.push, St.get, St.set, hget, hset, blt_dec, buildA, sizesOf, fillA, putCells, List.take_succ_cons, List.take_zero, List.drop_succ_cons, List.drop_zero, List.nil_append, List.cons_append, List.length_cons, List.length_nil, eqvs_dgs]
  simp only [R60_0_0, b60, Try.f60, Option.getD, fstC, sndC, bodyC, thnC, elsC]
  simp (maxSteps := 1000000) (disch := omega) [eK60_0_0, getCells, takeN, dropN, fieldAddrA, allOne, AV.one, n_push, putN, overN, blt_dec, buildA, sizesOf, fillA, putCells, List.take_succ_cons, List.take_zero, List.drop_succ_cons, List.drop_zero, List.nil_append, List.cons_append, List.length_cons, List.length_nil, eqvs_dgs]
set_option maxHeartbeats 4000000 in
theorem b60n (n : Nat) (cells : List AV) (k z : Int) (σ : St) (hk : wrapA .i64 (k - n) = z) (hz : z < 0) :
    exI TT (FI.of Try.f60 (TT.an 60)) [.code b60] (paramsE 0 [.lst n cells, .int .i64 k]) σ = some (.int .i64 (-1), σ) := by
  rw [fi60]
  simp only [b60, Try.f60, Option.getD, fstC, sndC, bodyC, thnC, elsC]
  simp (maxSteps := 1000000) (disch := omega) [eK60_0_0, getCells, takeN, dropN, fieldAddrA, allOne, AV.one, n_push, putN, overN, blt_dec, buildA, sizesOf, fillA, putCells, List.take_succ_cons, List.take_zero, List.drop_succ_cons, List.drop_zero, List.nil_append, List.cons_append, List.length_cons, List.length_nil, eqvs_dgs, hk, hz]
set_option maxHeartbeats 4000000 in
theorem b60p (n : Nat) (cells : List AV) (k z : Int) (σ : St) (hk : wrapA .i64 (k - n) = z) (hz : 0 ≤ z) :
    exI TT (FI.of Try.f60 (TT.an 60)) [.code b60] (paramsE 0 [.lst n cells, .int .i64 k]) σ = exI TT (FI.of Try.f60 (TT.an 60)) K60_0 [(0, .lst n cells), (1, .int .i64 z), (5, .int .i64 0)] σ := by
  rw [fi60]
  simp only [b60, Try.f60, Option.getD, fstC, sndC, bodyC, thnC, elsC]
  simp (maxSteps := 1000000) (disch := omega) [eK60_0_0, getCells, takeN, dropN, fieldAddrA, allOne, AV.one, n_push, putN, overN, blt_dec, buildA, sizesOf, fillA, putCells, List.take_succ_cons, List.take_zero, List.drop_succ_cons, List.drop_zero, List.nil_append, List.cons_append, List.length_cons, List.length_nil, eqvs_dgs, hk, hz]
  rfl
theorem l60 (ls : List (List (Int × Int))) (hn : ls.length ≤ maxLen) (hr : ∀ r ∈ ls, r.length ≤ maxLen) (k : Nat) (hk : k ≤ 1048576) (σ : St) : ∀ (m i left : Nat), i + m = ls.length → left ≤ k →
    ∃ z : Int, exI TT (FI.of Try.f60 (TT.an 60)) K60_0 [(0, FSS ls), (1, .int .i64 left), (5, .int .i64 i)] σ = some (.int .i64 z, σ) ∧ (0 ≤ z → ∀ r ∈ ls.drop i, r.length ≤ k) := by
  intro m
  induction m with
  | zero =>
    intro i left hi hle
    obtain rfl : i = ls.length := by omega
    exact ⟨_, e60 ls.length (flat F1 ls) left σ, by rw [List.drop_of_length_le (Nat.le_refl _)]; simp⟩
  | succ m ih =>
    intro i left hi hle
    have hil : i < ls.length := by omega
    have hi1 : ((i + 1 : Nat) : Int) = (i : Int) + 1 := by omega
    have hm : ls[i].length ≤ 9223372036854775807 := by have := hr _ (List.getElem_mem hil); unfold maxLen at this; omega
    have hw : wrapA .i64 ((i : Int) + 1) = (i : Int) + 1 := wrapA_id (by omega) (by unfold maxLen at hn; omega)
    have c1 := r14 ls[i] left (by omega) hm σ [FS ls[i], .int .i64 left] rfl
    by_cases h : left < ls[i].length
    · rw [if_pos h] at c1
      exact ⟨-1, s60n ls.length i _ (flat F1 ls) _ left (-1) σ hil (FSS_get hil σ) c1 (by decide), fun h => absurd h (by decide)⟩
    · rw [if_neg h] at c1
      have e : (left : Int) - (ls[i].length : Int) = ((left - ls[i].length : Nat) : Int) := by omega
      rw [e] at c1
      obtain ⟨z, k1, k2⟩ := ih (i + 1) (left - ls[i].length) (by omega) (by omega)
      rw [hi1] at k1
      refine ⟨z, ?_, fun hz => ?_⟩
      · rw [← k1]
        exact s60p ls.length i _ (flat F1 ls) _ left _ σ hil (FSS_get hil σ) c1 (by omega) hw
      · rw [List.drop_eq_getElem_cons hil]
        intro r hr
        rcases List.mem_cons.1 hr with rfl | hr
        · omega
        · exact k2 hz r hr
theorem r60 (ls : List (List (Int × Int))) (hn : ls.length ≤ maxLen) (hr : ∀ r ∈ ls, r.length ≤ maxLen) (k : Nat) (hk : k ≤ 1048576) : ∃ z : Int, FnV TT 60 [FSS ls, .int .i64 k] (.int .i64 z) ∧ (0 ≤ z → ls.length ≤ k ∧ ∀ r ∈ ls, r.length ≤ k) := by
  have hw : wrapA .i64 ((k : Int) - (ls.length : Int)) = (k : Int) - (ls.length : Int) := wrapA_id (by unfold maxLen at hn; omega) (by omega)
  by_cases h : k < ls.length
  · refine ⟨-1, FnV.mk (c := b60) fn60 rfl md60 ⟨⟨[], 0⟩, b60n _ _ _ _ _ hw (by omega)⟩ (fun _ => rfl) rfl, fun h => absurd h (by decide)⟩
  · obtain ⟨z, k1, k2⟩ := l60 ls hn hr k hk ⟨[], 0⟩ ls.length 0 (k - ls.length) (by omega) (by omega)
    have e : (k : Int) - (ls.length : Int) = ((k - ls.length : Nat) : Int) := by omega
    rw [e] at hw
    exact ⟨z, FnV.mk (c := b60) fn60 rfl md60 ⟨⟨[], 0⟩, (b60p _ _ _ _ _ (by rw [← e] at hw; exact hw.trans e) (by omega)).trans k1⟩ (fun _ => rfl) rfl, fun hz => ⟨by omega, by simpa using k2 hz⟩⟩

set_option maxHeartbeats 4000000 in
theorem k19n (n : Nat) (c : List AV) (k z : Int) (c1 : ∀ σ, callI TT 60 [.lst n c, .int .i64 k] σ = some (.int .i64 z, σ)) (hz : z < 0) :
    ∃ σ', exI TT (FI.of Try.f19 (TT.an 19)) [.code (Try.f19.body.getD .skip)] (paramsE 0 [.agg [.lst n c], .int .i64 k]) ⟨[], 0⟩ = some (.int .i64 (-1), σ') := by
  refine ex1 ?_
  rw [fi19]
  simp only [Try.f19, Option.getD]
  simp (maxSteps := 1000000) (disch := omega) [cellsAt, getCells, takeN, dropN, fieldAddrA, allOne, AV.one, n_push, storeCellsA, putN, overN, St.push, St.get, St.set, hget, hset, blt_dec, buildA, sizesOf, fillA, putCells, List.take_succ_cons, List.take_zero, List.drop_succ_cons, List.drop_zero, List.nil_append, List.cons_append, List.length_cons, List.length_nil, eqvs_dgs, c1, hz]
set_option maxHeartbeats 4000000 in
theorem k19p (n : Nat) (c : List AV) (k z : Int) (c1 : ∀ σ, callI TT 60 [.lst n c, .int .i64 k] σ = some (.int .i64 z, σ)) (hz : 0 ≤ z) :
    ∃ σ', exI TT (FI.of Try.f19 (TT.an 19)) [.code (Try.f19.body.getD .skip)] (paramsE 0 [.agg [.lst n c], .int .i64 k]) ⟨[], 0⟩ = some (.int .i64 z, σ') := by
  refine ex1 ?_
  rw [fi19]
  simp only [Try.f19, Option.getD]
  simp (maxSteps := 1000000) (disch := omega) [cellsAt, getCells, takeN, dropN, fieldAddrA, allOne, AV.one, n_push, storeCellsA, putN, overN, St.push, St.get, St.set, hget, hset, blt_dec, buildA, sizesOf, fillA, putCells, List.take_succ_cons, List.take_zero, List.drop_succ_cons, List.drop_zero, List.nil_append, List.cons_append, List.length_cons, List.length_nil, eqvs_dgs, c1, hz]
theorem r19 (ls : List (List (Int × Int))) (hn : ls.length ≤ maxLen) (hr : ∀ r ∈ ls, r.length ≤ maxLen) : ∃ z : Int, FnV TT 19 [.agg [FSS ls], .int .i64 1048576] (.int .i64 z) ∧ (0 ≤ z → ls.length ≤ 1048576 ∧ ∀ r ∈ ls, r.length ≤ 1048576) := by
  obtain ⟨z, h1, h2⟩ := r60 ls hn hr 1048576 (Nat.le_refl _)
  by_cases hz : 0 ≤ z
  · exact ⟨z, FnV.mk fn19 rfl md19 (k19p _ _ _ z (fun σ => h1 σ [FSS ls, .int .i64 1048576] rfl) hz) (fun _ => rfl) rfl, h2⟩
  · exact ⟨-1, FnV.mk fn19 rfl md19 (k19n _ _ _ z (fun σ => h1 σ [FSS ls, .int .i64 1048576] rfl) (by omega)) (fun _ => rfl) rfl, fun h => absurd h (by decide)⟩

noncomputable def b62 : Code := Try.f62.body.getD .skip
noncomputable def B62_0 : Code := (bodyC (bodyC (sndC (fstC (sndC (sndC b62))))))
noncomputable def K62_0 : List It := .lp B62_0 :: .blk 0 :: .code (sndC (sndC (sndC b62))) :: []
theorem xl62_0 {fi : FI} {env : Env} {σ : St} : exI TT fi K62_0 env σ = exI TT fi (.code B62_0 :: K62_0) env σ := by unfold K62_0; exact xI_lp
noncomputable def R62_0_0 : List It := .code (sndC (sndC (sndC b62))) :: []
theorem eK62_0_0 : exitA 0 K62_0 = some R62_0_0 := rfl
set_option maxHeartbeats 4000000 in
theorem s62 (n b i m : Nat) (cells x : List AV) (σ σ1 : St) (hi : i < n) (l1 : cellsAt σ (.lp cells i) 1 = some [.lst m x]) (c1 : callI TT 16 [.lst m x] σ = some (.lst m x, σ)) (s1 : storeCellsA σ b i [.lst m x] = some σ1) (hw : wrapA .i64 ((i : Int) + 1) = (i : Int) + 1) :
    exI TT (FI.of Try.f62 (TT.an 62)) K62_0 [(0, .lst n cells), (3, .sl b 0 n n), (4, .int .i64 i)] σ = exI TT (FI.of Try.f62 (TT.an 62)) K62_0 [(0, .lst n cells), (3, .sl b 0 n n), (4, .int .i64 ((i : Int) + 1))] σ1 := by
  rw [fi62]
  conv => lhs; rw [xl62_0]
  simp only [B62_0, b62, Try.f62, Option.getD, fstC, sndC, bodyC, thnC, elsC]
  simp (maxSteps := 1000000) (disch := omega) [eK62_0_0, getCells, takeN, dropN, fieldAddrA, allOne, AV.one, n_push, putN, overN, blt_dec, buildA, sizesOf, fillA, putCells, List.take_succ_cons, List.take_zero, List.drop_succ_cons, List.drop_zero, List.nil_append, List.cons_append, List.length_cons, List.length_nil, eqvs_dgs, hi, l1, c1, s1, hw]
set_option maxHeartbeats 4000000 in
theorem e62 (n b : Nat) (cells : List AV) (σ : St)  :
    exI TT (FI.of Try.f62 (TT.an 62)) K62_0 [(0, .lst n cells), (3, .sl b 0 n n), (4, .int .i64 n)] σ = some (.sl b 0 n n, σ) := by
  rw [fi62]
  conv => lhs; rw [xl62_0]
  simp only [B62_0, b62, Try.f62, Option.getD, fstC, sndC, bodyC, thnC, elsC]
  simp (maxSteps := 1000000) (disch := omega) [eK62_0_0, cellsAt, getCells, takeN, dropN, fieldAddrA, allOne, AV.one, n_push, storeCellsA, putN, overN, St.push, St.get, St.set, hget, hset, blt_dec, buildA, sizesOf, fillA, putCells, List.take_succ_cons, List.take_zero, List.drop_succ_cons, List.drop_zero, List.nil_append, List.cons_append, List.length_cons, List.length_nil, eqvs_dgs]
  simp only [R62_0_0, b62, Try.f62, Option.getD, fstC, sndC, bodyC, thnC, elsC]
  simp (maxSteps := 1000000) (disch := omega) [eK62_0_0, getCells, takeN, dropN, fieldAddrA, allOne, AV.one, n_push, putN, overN, blt_dec, buildA, sizesOf, fillA, putCells, List.take_succ_cons, List.take_zero, List.drop_succ_cons, List.drop_zero, List.nil_append, List.cons_append, List.length_cons, List.length_nil, eqvs_dgs]
set_option maxHeartbeats 4000000 in
theorem b62e (n : Nat) (cells : List AV) (σ1 : St) (c1 : makeSliceA TT ⟨[], 0⟩ 34 (.int .i64 n) (.int .i64 n) = some (.sl 0 0 n n, σ1)) :
    exI TT (FI.of Try.f62 (TT.an 62)) [.code b62] (paramsE 0 [.lst n cells]) ⟨[], 0⟩ = exI TT (FI.of Try.f62 (TT.an 62)) K62_0 [(0, .lst n cells), (3, .sl 0 0 n n), (4, .int .i64 0)] σ1 := by
  rw [fi62]
  simp only [b62, Try.f62, Option.getD, fstC, sndC, bodyC, thnC, elsC]
  simp (maxSteps := 1000000) (disch := omega) [eK62_0_0, getCells, takeN, dropN, fieldAddrA, allOne, AV.one, n_push, putN, overN, blt_dec, buildA, sizesOf, fillA, putCells, List.take_succ_cons, List.take_zero, List.drop_succ_cons, List.drop_zero, List.nil_append, List.cons_append, List.length_cons, List.length_nil, eqvs_dgs, c1]
  rfl
theorem l62 (ls : List (List (Int × Int))) (hs : ls.length ≤ 10000000) (hr : ∀ r ∈ ls, r.length ≤ 10000000) (b : Nat) : ∀ (m i : Nat) (σ : St), i + m = ls.length → RowE σ b 1 (flat F1 (ls.take i) ++ repeatCells [.nilS] m) →
    ∃ σ', exI TT (FI.of Try.f62 (TT.an 62)) K62_0 [(0, FSS ls), (3, .sl b 0 ls.length ls.length), (4, .int .i64 i)] σ = some (.sl b 0 ls.length ls.length, σ') ∧ RowE σ' b 1 (flat F1 ls) := by
  intro m
  induction m with
  | zero =>
    intro i σ hi hr
    obtain rfl : i = ls.length := by omega
    rw [List.take_of_length_le (Nat.le_refl _), repeatCells, List.append_nil] at hr
    exact ⟨σ, e62 ls.length b (flat F1 ls) σ, hr⟩
  | succ m ih =>
    intro i σ hi hrow
    have hil : i < ls.length := by omega
    have hpl : (flat F1 (ls.take i)).length = i := by rw [flat_len F1_len, List.length_take, Nat.min_eq_left (by omega)]; omega
    obtain ⟨σ1, a1, a2, _⟩ := hrow.st (i := i) (ws := F1 ls[i]) (by rw [List.length_append, hpl, repeatCells, List.length_append]; simp [F1]) rfl
    rw [repeatCells] at a2
    have hp : putCells (flat F1 (ls.take i) ++ ([.nilS] ++ repeatCells [.nilS] m)) i (F1 ls[i]) = flat F1 (ls.take i) ++ (F1 ls[i] ++ repeatCells [.nilS] m) := by
      have := put_el (pre := flat F1 (ls.take i)) (z := [.nilS]) (w := F1 ls[i]) (suf := repeatCells [.nilS] m) rfl
      rw [hpl] at this; exact this
    rw [hp, ← List.append_assoc] at a2
    have e : flat F1 (ls.take i) ++ F1 ls[i] = flat F1 (ls.take (i + 1)) := by rw [List.take_succ_eq_append_getElem hil, flat_app]; simp [flat]
    rw [e] at a2
    obtain ⟨σ', k1, k2⟩ := ih (i + 1) σ1 (by omega) a2
    refine ⟨σ', ?_, k2⟩
    rw [← k1]
    have hi1 : ((i + 1 : Nat) : Int) = (i : Int) + 1 := by omega
    rw [hi1]
    exact s62 ls.length b i _ (flat F1 ls) _ σ σ1 hil (FSS_get hil σ) ((r16 ls[i] (hr _ (List.getElem_mem hil))).pure σ rfl rfl) a1 (wrapA_id (by omega) (by omega))
theorem F1_frz (σ : St) (d : Nat) (r : List (Int × Int)) : mapO (frzV σ (d + 1)) (F1 r) = some (F1 r) := rfl
theorem r62 (ls : List (List (Int × Int))) (hs : ls.length ≤ 10000000) (hr : ∀ r ∈ ls, r.length ≤ 10000000) : FnF TT 62 [FSS ls] (FSS ls) := by
  have hm := make_el (T := TT) (σ := ⟨[], 0⟩) (st := 34) (n := ls.length) ty34 ty25 (by decide) (by omega)
  obtain ⟨σ', k1, k2⟩ := l62 ls hs hr 0 ls.length 0 _ (by omega) (RowE.push (σ := ⟨[], 0⟩) (cs := repeatCells [.nilS] ls.length) (e := 1) (o := false))
  refine FnF.mk (c := b62) fn62 rfl md62 ⟨σ', _, (b62e _ _ _ hm).trans k1, ?_⟩
  exact k2.frz (d := 4) (by rw [flat_len F1_len]) (flat_frz (fun v => F1_frz σ' 4 v) _) (Nat.le_refl _)

set_option maxHeartbeats 4000000 in
theorem k21 (n : Nat) (c : List AV) (c1 : ∀ σ, callI TT 62 [.lst n c] σ = some (.lst n c, σ)) :
    ∃ σ', exI TT (FI.of Try.f21 (TT.an 21)) [.code (Try.f21.body.getD .skip)] (paramsE 0 [.agg [.lst n c]]) ⟨[], 0⟩ = some (.agg [.lst n c], σ') := by
  refine ex1 ?_
  rw [fi21]
  simp only [Try.f21, Option.getD]
  simp (maxSteps := 1000000) (disch := omega) [cellsAt, getCells, takeN, dropN, fieldAddrA, allOne, AV.one, n_push, storeCellsA, putN, overN, St.push, St.get, St.set, hget, hset, blt_dec, buildA, sizesOf, fillA, putCells, List.take_succ_cons, List.take_zero, List.drop_succ_cons, List.drop_zero, List.nil_append, List.cons_append, List.length_cons, List.length_nil, eqvs_dgs, c1]
theorem r21 (ls : List (List (Int × Int))) (hs : ls.length ≤ 10000000) (hr : ∀ r ∈ ls, r.length ≤ 10000000) : FnF TT 21 [.agg [FSS ls]] (.agg [FSS ls]) :=
  FnF.mkv fn21 rfl md21 (k21 _ _ (fun σ => (r62 ls hs hr).pure σ rfl rfl)) (fun _ => rfl)

noncomputable def b68 : Code := Try.f68.body.getD .skip
noncomputable def B68_0 : Code := (bodyC (bodyC (sndC (fstC (sndC (sndC b68))))))
noncomputable def K68_0 : List It := .lp B68_0 :: .blk 0 :: .code (sndC (sndC (sndC b68))) :: []
theorem xl68_0 {fi : FI} {env : Env} {σ : St} : exI TT fi K68_0 env σ = exI TT fi (.code B68_0 :: K68_0) env σ := by unfold K68_0; exact xI_lp
noncomputable def R68_0_0 : List It := .code (sndC (sndC (sndC b68))) :: []
theorem eK68_0_0 : exitA 0 K68_0 = some R68_0_0 := rfl
set_option maxHeartbeats 4000000 in
theorem s68 (n i m : Nat) (cells x : List AV) (σ : St) (hi : i < n) (l1 : cellsAt σ (.lp cells i) 1 = some [.lst m x]) (c1 : callI TT 18 [.lst m x, .lst m x] σ = some (.bool true, σ)) (hex : eqvs x x = true) (hw : wrapA .i64 ((i : Int) + 1) = (i : Int) + 1) :
    exI TT (FI.of Try.f68 (TT.an 68)) K68_0 [(0, .lst n cells), (1, .lst n cells), (5, .int .i64 i)] σ = exI TT (FI.of Try.f68 (TT.an 68)) K68_0 [(0, .lst n cells), (1, .lst n cells), (5, .int .i64 ((i : Int) + 1))] σ := by
  rw [fi68]
  conv => lhs; rw [xl68_0]
  simp only [B68_0, b68, Try.f68, Option.getD, fstC, sndC, bodyC, thnC, elsC]
  simp (maxSteps := 1000000) (disch := omega) [eK68_0_0, getCells, takeN, dropN, fieldAddrA, allOne, AV.one, n_push, putN, overN, blt_dec, buildA, sizesOf, fillA, putCells, List.take_succ_cons, List.take_zero, List.drop_succ_cons, List.drop_zero, List.nil_append, List.cons_append, List.length_cons, List.length_nil, eqvs_dgs, hi, l1, c1, hex, hw]
set_option maxHeartbeats 4000000 in
theorem e68 (n : Nat) (cells : List AV) (σ : St)  :
    exI TT (FI.of Try.f68 (TT.an 68)) K68_0 [(0, .lst n cells), (1, .lst n cells), (5, .int .i64 n)] σ = some (.bool true, σ) := by
  rw [fi68]
  conv => lhs; rw [xl68_0]
  simp only [B68_0, b68, Try.f68, Option.getD, fstC, sndC, bodyC, thnC, elsC]
  simp (maxSteps := 1000000) (disch := omega) [eK68_0_0, cellsAt, getCells, takeN, dropN, fieldAddrA, allOne, AV.one, n_push, storeCellsA, putN, overN, St.push, St.get, St.set, hget, hset, blt_dec, buildA, sizesOf, fillA, putCells, List.take_succ_cons, List.take_zero, List.drop_succ_cons, List.drop_zero, List.nil_append, List.cons_append, List.length_cons, List.length_nil, eqvs_dgs]
  simp only [R68_0_0, b68, Try.f68, Option.getD, fstC, sndC, bodyC, thnC, elsC]
  simp (maxSteps := 1000000) (disch := omega) [eK68_0_0, getCells, takeN, dropN, fieldAddrA, allOne, AV.one, n_push, putN, overN, blt_dec, buildA, sizesOf, fillA, putCells, List.take_succ_cons, List.take_zero, List.drop_succ_cons, List.drop_zero, List.nil_append, List.cons_append, List.length_cons, List.length_nil, eqvs_dgs]
set_option maxHeartbeats 4000000 in
theorem b68e (n : Nat) (cells : List AV) (σ : St)  :
    exI TT (FI.of Try.f68 (TT.an 68)) [.code b68] (paramsE 0 [.lst n cells, .lst n cells]) σ = exI TT (FI.of Try.f68 (TT.an 68)) K68_0 [(0, .lst n cells), (1, .lst n cells), (5, .int .i64 0)] σ := by
  rw [fi68]
  simp only [b68, Try.f68, Option.getD, fstC, sndC, bodyC, thnC, elsC]
  simp (maxSteps := 1000000) (disch := omega) [eK68_0_0, getCells, takeN, dropN, fieldAddrA, allOne, AV.one, n_push, putN, overN, blt_dec, buildA, sizesOf, fillA, putCells, List.take_succ_cons, List.take_zero, List.drop_succ_cons, List.drop_zero, List.nil_append, List.cons_append, List.length_cons, List.length_nil, eqvs_dgs]
  rfl
theorem flat_eqv {α : Type} {f : α → List AV} (hf : ∀ x, eqvs (f x) (f x) = true) (l : List α) : eqvs (flat f l) (flat f l) = true := by
  have app : ∀ (a b : List AV), eqvs a a = true → eqvs b b = true → eqvs (a ++ b) (a ++ b) = true := by
    intro a
    induction a with
    | nil => intro b _ h; exact h
    | cons x r ih => intro b h1 h2; simp only [eqvs, Bool.and_eq_true, List.cons_append] at h1 ⊢; exact ⟨h1.1, ih b h1.2 h2⟩
  induction l with
  | nil => rfl
  | cons x r ih => rw [flat, List.flatMap_cons]; exact app _ _ (hf x) ih
theorem FS_eqv (l : List (Int × Int)) : eqvs (flat FC l) (flat FC l) = true := flat_eqv (fun x => by simp [FC, eqvs, AV.eqv]) l
theorem F1_eqv (ls : List (List (Int × Int))) : eqvs (flat F1 ls) (flat F1 ls) = true := flat_eqv (fun r => by simp [F1, FS, eqvs, AV.eqv, FS_eqv]) ls
theorem l68 (ls : List (List (Int × Int))) (hs : ls.length ≤ 10000000) (hr : ∀ r ∈ ls, r.length ≤ 10000000) (σ : St) : ∀ (m i : Nat), i + m = ls.length → exI TT (FI.of Try.f68 (TT.an 68)) K68_0 [(0, FSS ls), (1, FSS ls), (5, .int .i64 i)] σ = some (.bool true, σ) := by
  intro m
  induction m with
  | zero =>
    intro i hi
    obtain rfl : i = ls.length := by omega
    exact e68 _ _ σ
  | succ m ih =>
    intro i hi
    have hil : i < ls.length := by omega
    have h := ih (i + 1) (by omega)
    have hi1 : ((i + 1 : Nat) : Int) = (i : Int) + 1 := by omega
    rw [hi1] at h
    rw [← h]
    exact s68 ls.length i _ (flat F1 ls) _ σ hil (FSS_get hil σ) (r18 ls[i] (hr _ (List.getElem_mem hil)) σ [FS ls[i], FS ls[i]] rfl) (FS_eqv _) (wrapA_id (by omega) (by omega))
theorem r68 (ls : List (List (Int × Int))) (hs : ls.length ≤ 10000000) (hr : ∀ r ∈ ls, r.length ≤ 10000000) : FnV TT 68 [FSS ls, FSS ls] (.bool true) :=
  FnV.mk (c := b68) fn68 rfl md68 ⟨⟨[], 0⟩, (b68e _ _ _).trans (l68 ls hs hr ⟨[], 0⟩ ls.length 0 (by omega))⟩ (fun _ => rfl) rfl

set_option maxHeartbeats 4000000 in
theorem k23 (n : Nat) (c : List AV) (c1 : ∀ σ, callI TT 68 [.lst n c, .lst n c] σ = some (.bool true, σ)) :
    ∃ σ', exI TT (FI.of Try.f23 (TT.an 23)) [.code (Try.f23.body.getD .skip)] (paramsE 0 [.agg [.lst n c], .agg [.lst n c]]) ⟨[], 0⟩ = some (.bool true, σ') := by
  refine ex1 ?_
  rw [fi23]
  simp only [Try.f23, Option.getD]
  simp (maxSteps := 1000000) (disch := omega) [cellsAt, getCells, takeN, dropN, fieldAddrA, allOne, AV.one, n_push, storeCellsA, putN, overN, St.push, St.get, St.set, hget, hset, blt_dec, buildA, sizesOf, fillA, putCells, List.take_succ_cons, List.take_zero, List.drop_succ_cons, List.drop_zero, List.nil_append, List.cons_append, List.length_cons, List.length_nil, eqvs_dgs, c1]
theorem r23 (ls : List (List (Int × Int))) (hs : ls.length ≤ 10000000) (hr : ∀ r ∈ ls, r.length ≤ 10000000) : FnV TT 23 [.agg [FSS ls], .agg [FSS ls]] (.bool true) :=
  FnV.mk fn23 rfl md23 (k23 _ _ (fun σ => r68 ls hs hr σ [FSS ls, FSS ls] rfl)) (fun _ => rfl) rfl
/-- Valid walks. -/
def rowOk (n : Nat) (r : List (Int × Int)) : Bool := decide (r.length = n) && isCh r
def isWk (ls : List (List (Int × Int))) : Bool := (decide (1 ≤ ls.length) && decide (ls.length ≤ 6)) && ls.all (rowOk ls.length)

noncomputable def b61 : Code := Try.f61.body.getD .skip
noncomputable def B61_0 : Code := (bodyC (bodyC (sndC (fstC (sndC (sndC (sndC b61)))))))
noncomputable def K61_0 : List It := .lp B61_0 :: .blk 0 :: .code (sndC (sndC (sndC (sndC b61)))) :: []
theorem xl61_0 {fi : FI} {env : Env} {σ : St} : exI TT fi K61_0 env σ = exI TT fi (.code B61_0 :: K61_0) env σ := by unfold K61_0; exact xI_lp
noncomputable def R61_0_0 : List It := .code (sndC (sndC (sndC (sndC b61)))) :: []
theorem eK61_0_0 : exitA 0 K61_0 = some R61_0_0 := rfl
set_option maxHeartbeats 4000000 in
theorem s61l (n b i m : Nat) (cells x : List AV) (σ : St) (hi : i < n) (l0 : cellsAt σ (.ptr b 0) 1 = some [.lst n cells]) (l1 : cellsAt σ (.lp cells i) 1 = some [.lst m x]) (hm : ieqb (m : Int) n = false) :
    exI TT (FI.of Try.f61 (TT.an 61)) K61_0 [(0, .ptr b 0), (3, .int .i64 n), (4, .int .i64 i)] σ = some (.bool false, σ) := by
  rw [fi61]
  conv => lhs; rw [xl61_0]
  simp only [B61_0, b61, Try.f61, Option.getD, fstC, sndC, bodyC, thnC, elsC]
  simp (maxSteps := 1000000) (disch := omega) [eK61_0_0, getCells, takeN, dropN, fieldAddrA, allOne, AV.one, n_push, putN, overN, blt_dec, buildA, sizesOf, fillA, putCells, List.take_succ_cons, List.take_zero, List.drop_succ_cons, List.drop_zero, List.nil_append, List.cons_append, List.length_cons, List.length_nil, eqvs_dgs, hi, l0, l1, hm]
set_option maxHeartbeats 4000000 in
theorem s61f (n b i : Nat) (cells x : List AV) (σ : St) (hi : i < n) (l0 : cellsAt σ (.ptr b 0) 1 = some [.lst n cells]) (l1 : cellsAt σ (.lp cells i) 1 = some [.lst n x]) (c1 : callI TT 74 [.lst n x] σ = some (.bool false, σ)) :
    exI TT (FI.of Try.f61 (TT.an 61)) K61_0 [(0, .ptr b 0), (3, .int .i64 n), (4, .int .i64 i)] σ = some (.bool false, σ) := by
  rw [fi61]
  conv => lhs; rw [xl61_0]
  simp only [B61_0, b61, Try.f61, Option.getD, fstC, sndC, bodyC, thnC, elsC]
  simp (maxSteps := 1000000) (disch := omega) [eK61_0_0, getCells, takeN, dropN, fieldAddrA, allOne, AV.one, n_push, putN, overN, blt_dec, buildA, sizesOf, fillA, putCells, List.take_succ_cons, List.take_zero, List.drop_succ_cons, List.drop_zero, List.nil_append, List.cons_append, List.length_cons, List.length_nil, eqvs_dgs, hi, l0, l1, c1]
set_option maxHeartbeats 4000000 in
theorem s61t (n b i : Nat) (cells x : List AV) (σ : St) (hi : i < n) (l0 : cellsAt σ (.ptr b 0) 1 = some [.lst n cells]) (l1 : cellsAt σ (.lp cells i) 1 = some [.lst n x]) (c1 : callI TT 74 [.lst n x] σ = some (.bool true, σ)) (hw : wrapA .i64 ((i : Int) + 1) = (i : Int) + 1) :
    exI TT (FI.of Try.f61 (TT.an 61)) K61_0 [(0, .ptr b 0), (3, .int .i64 n), (4, .int .i64 i)] σ = exI TT (FI.of Try.f61 (TT.an 61)) K61_0 [(0, .ptr b 0), (3, .int .i64 n), (4, .int .i64 ((i : Int) + 1))] σ := by
  rw [fi61]
  conv => lhs; rw [xl61_0]
  simp only [B61_0, b61, Try.f61, Option.getD, fstC, sndC, bodyC, thnC, elsC]
  simp (maxSteps := 1000000) (disch := omega) [eK61_0_0, getCells, takeN, dropN, fieldAddrA, allOne, AV.one, n_push, putN, overN, blt_dec, buildA, sizesOf, fillA, putCells, List.take_succ_cons, List.take_zero, List.drop_succ_cons, List.drop_zero, List.nil_append, List.cons_append, List.length_cons, List.length_nil, eqvs_dgs, hi, l0, l1, c1, hw]
set_option maxHeartbeats 4000000 in
theorem e61 (n b : Nat) (σ : St)  :
    exI TT (FI.of Try.f61 (TT.an 61)) K61_0 [(0, .ptr b 0), (3, .int .i64 n), (4, .int .i64 n)] σ = some (.bool true, σ) := by
  rw [fi61]
  conv => lhs; rw [xl61_0]
  simp only [B61_0, b61, Try.f61, Option.getD, fstC, sndC, bodyC, thnC, elsC]
  simp (maxSteps := 1000000) (disch := omega) [eK61_0_0, cellsAt, getCells, takeN, dropN, fieldAddrA, allOne, AV.one, n_push, storeCellsA, putN, overN, St.push, St.get, St.set, hget, hset, blt_dec, buildA, sizesOf, fillA, putCells, List.take_succ_cons, List.take_zero, List.drop_succ_cons, List.drop_zero, List.nil_append, List.cons_append, List.length_cons, List.length_nil, eqvs_dgs]
  simp only [R61_0_0, b61, Try.f61, Option.getD, fstC, sndC, bodyC, thnC, elsC]
  simp (maxSteps := 1000000) (disch := omega) [eK61_0_0, getCells, takeN, dropN, fieldAddrA, allOne, AV.one, n_push, putN, overN, blt_dec, buildA, sizesOf, fillA, putCells, List.take_succ_cons, List.take_zero, List.drop_succ_cons, List.drop_zero, List.nil_append, List.cons_append, List.length_cons, List.length_nil, eqvs_dgs]
set_option maxHeartbeats 4000000 in
theorem b61n (n b : Nat) (cells : List AV) (σ : St) (l0 : cellsAt σ (.ptr b 0) 1 = some [.lst n cells]) (h : n = 0) :
    exI TT (FI.of Try.f61 (TT.an 61)) [.code b61] (paramsE 0 [.ptr b 0]) σ = some (.bool false, σ) := by
  rw [fi61]
  simp only [b61, Try.f61, Option.getD, fstC, sndC, bodyC, thnC, elsC]
  simp (maxSteps := 1000000) (disch := omega) [eK61_0_0, getCells, takeN, dropN, fieldAddrA, allOne, AV.one, n_push, putN, overN, blt_dec, buildA, sizesOf, fillA, putCells, List.take_succ_cons, List.take_zero, List.drop_succ_cons, List.drop_zero, List.nil_append, List.cons_append, List.length_cons, List.length_nil, eqvs_dgs, l0, h]
set_option maxHeartbeats 4000000 in
theorem b61m (n b : Nat) (cells : List AV) (σ : St) (l0 : cellsAt σ (.ptr b 0) 1 = some [.lst n cells]) (h : 6 < n) :
    exI TT (FI.of Try.f61 (TT.an 61)) [.code b61] (paramsE 0 [.ptr b 0]) σ = some (.bool false, σ) := by
  rw [fi61]
  simp only [b61, Try.f61, Option.getD, fstC, sndC, bodyC, thnC, elsC]
  simp (maxSteps := 1000000) (disch := omega) [eK61_0_0, getCells, takeN, dropN, fieldAddrA, allOne, AV.one, n_push, putN, overN, blt_dec, buildA, sizesOf, fillA, putCells, List.take_succ_cons, List.take_zero, List.drop_succ_cons, List.drop_zero, List.nil_append, List.cons_append, List.length_cons, List.length_nil, eqvs_dgs, l0, h]
set_option maxHeartbeats 4000000 in
theorem b61p (n b : Nat) (cells : List AV) (σ : St) (l0 : cellsAt σ (.ptr b 0) 1 = some [.lst n cells]) (h : 1 ≤ n) (h2 : n ≤ 6) :
    exI TT (FI.of Try.f61 (TT.an 61)) [.code b61] (paramsE 0 [.ptr b 0]) σ = exI TT (FI.of Try.f61 (TT.an 61)) K61_0 [(0, .ptr b 0), (3, .int .i64 n), (4, .int .i64 0)] σ := by
  rw [fi61]
  simp only [b61, Try.f61, Option.getD, fstC, sndC, bodyC, thnC, elsC]
  simp (maxSteps := 1000000) (disch := omega) [eK61_0_0, getCells, takeN, dropN, fieldAddrA, allOne, AV.one, n_push, putN, overN, blt_dec, buildA, sizesOf, fillA, putCells, List.take_succ_cons, List.take_zero, List.drop_succ_cons, List.drop_zero, List.nil_append, List.cons_append, List.length_cons, List.length_nil, eqvs_dgs, l0, h, h2]
  rfl
theorem l61 (ls : List (List (Int × Int))) (hs : ls.length ≤ 6) (hr : ∀ r ∈ ls, r.length ≤ 10000000) (b : Nat) (σ : St) (l0 : cellsAt σ (.ptr b 0) 1 = some [FSS ls]) : ∀ (m i : Nat), i + m = ls.length → exI TT (FI.of Try.f61 (TT.an 61)) K61_0 [(0, .ptr b 0), (3, .int .i64 ls.length), (4, .int .i64 i)] σ = some (.bool ((ls.drop i).all (rowOk ls.length)), σ) := by
  intro m
  induction m with
  | zero =>
    intro i hi
    obtain rfl : i = ls.length := by omega
    rw [List.drop_of_length_le (Nat.le_refl _)]
    exact e61 _ b σ
  | succ m ih =>
    intro i hi
    have hil : i < ls.length := by omega
    have h := ih (i + 1) (by omega)
    have hi1 : ((i + 1 : Nat) : Int) = (i : Int) + 1 := by omega
    rw [hi1] at h
    have c1 := r74 ls[i] (hr _ (List.getElem_mem hil)) σ [FS ls[i]] rfl
    have g1 := FSS_get hil σ
    rw [List.drop_eq_getElem_cons hil, List.all_cons, rowOk]
    by_cases hl : ls[i].length = ls.length
    · rw [decide_eq_true hl, Bool.true_and]
      have e : FS ls[i] = .lst ls.length (flat FC ls[i]) := by rw [FS, hl]
      rw [e] at c1 g1
      cases hc : isCh ls[i] with
      | true =>
        rw [hc] at c1
        rw [Bool.true_and, ← h]
        exact s61t ls.length b i (flat F1 ls) _ σ hil l0 g1 c1 (wrapA_id (by omega) (by omega))
      | false =>
        rw [hc] at c1
        exact s61f ls.length b i (flat F1 ls) _ σ hil l0 g1 c1
    · rw [decide_eq_false hl]
      exact s61l ls.length b i _ (flat F1 ls) _ σ hil l0 g1 (ieqb_f (by omega))
theorem r61 (ls : List (List (Int × Int))) (hr : ∀ r ∈ ls, r.length ≤ 10000000) (b : Nat) (σ : St) (l0 : cellsAt σ (.ptr b 0) 1 = some [FSS ls]) : callI TT 61 [.ptr b 0] σ = some (.bool (isWk ls), σ) := by
  rw [cI_0 (c := b61) fn61 rfl md61]
  unfold isWk
  by_cases h1 : 1 ≤ ls.length
  · by_cases h2 : ls.length ≤ 6
    · rw [decide_eq_true h1, decide_eq_true h2, Bool.true_and, Bool.true_and]
      have := l61 ls h2 hr b σ l0 ls.length 0 (by omega)
      rw [List.drop_zero] at this
      exact (b61p _ b _ σ l0 h1 h2).trans this
    · rw [decide_eq_false h2, Bool.and_false, Bool.false_and]
      exact b61m _ b _ σ l0 (by omega)
  · rw [decide_eq_false h1]
    exact b61n _ b _ σ l0 (by omega)

set_option maxHeartbeats 4000000 in
theorem k20 (n : Nat) (c : List AV) (z : Bool) (σ0 : St) (h1 : (⟨[], 0⟩ : St).push ⟨[.lst n c], 1, false⟩ = σ0) (c1 : callI TT 61 [.ptr 0 0] σ0 = some (.bool z, σ0)) :
    ∃ σ', exI TT (FI.of Try.f20 (TT.an 20)) [.code (Try.f20.body.getD .skip)] (paramsE 0 [.agg [.lst n c]]) ⟨[], 0⟩ = some (.bool z, σ') := by
  refine ex1 ?_
  rw [fi20]
  simp only [Try.f20, Option.getD]
  simp (maxSteps := 1000000) (disch := omega) [getCells, takeN, dropN, fieldAddrA, allOne, AV.one, n_push, putN, overN, blt_dec, buildA, sizesOf, fillA, putCells, List.take_succ_cons, List.take_zero, List.drop_succ_cons, List.drop_zero, List.nil_append, List.cons_append, List.length_cons, List.length_nil, eqvs_dgs, h1, c1]
theorem r20 (ls : List (List (Int × Int))) (hr : ∀ r ∈ ls, r.length ≤ 10000000) : FnV TT 20 [.agg [FSS ls]] (.bool (isWk ls)) :=
  FnV.mk fn20 rfl md20 (k20 _ _ _ _ rfl (r61 ls hr 0 _ (Bx.rd (Bx.push (σ := ⟨[], 0⟩) (vs := [FSS ls]) (m := 1)) rfl))) (fun _ => rfl) rfl

set_option maxHeartbeats 4000000 in
theorem k64 (n : Nat) (c : List AV)  :
    ∃ σ', exI TT (FI.of Try.f64 (TT.an 64)) [.code (Try.f64.body.getD .skip)] (paramsE 0 [.lst n c]) ⟨[], 0⟩ = some (.int .i64 n, σ') := by
  refine ex1 ?_
  rw [fi64]
  simp only [Try.f64, Option.getD]
  simp (maxSteps := 1000000) (disch := omega) [cellsAt, getCells, takeN, dropN, fieldAddrA, allOne, AV.one, n_push, storeCellsA, putN, overN, St.push, St.get, St.set, hget, hset, blt_dec, buildA, sizesOf, fillA, putCells, List.take_succ_cons, List.take_zero, List.drop_succ_cons, List.drop_zero, List.nil_append, List.cons_append, List.length_cons, List.length_nil, eqvs_dgs]
theorem r64 (n : Nat) (c : List AV) : FnV TT 64 [.lst n c] (.int .i64 n) := FnV.mk fn64 rfl md64 (k64 n c) (fun _ => rfl) rfl
theorem r66 (ls : List (List (Int × Int))) (r : List (Int × Int)) (hr : r.length ≤ 10000000) (b : Nat) (σ : St) (l0 : cellsAt σ (.ptr b 0) 1 = some [FSS ls]) : callI TT 66 [FS r, .ptr b 0] σ = some (.bool (!rowOk ls.length r), σ) := by
  have c1 := r67 r hr σ [FS r] rfl
  unfold FSS at l0
  unfold rowOk
  rw [cI_0 fn66 rfl md66, fi66]
  generalize isCh r = q at *
  by_cases h : r.length = ls.length
  · rw [decide_eq_true h]
    have e : FS r = .lst ls.length (flat FC r) := by rw [FS, h]
    rw [e] at c1 ⊢
    cases q <;>
    simp (maxSteps := 1000000) (disch := omega) [getCells, takeN, dropN, fieldAddrA, allOne, AV.one, n_push, putN, overN, blt_dec, buildA, sizesOf, fillA, putCells, List.take_succ_cons, List.take_zero, List.drop_succ_cons, List.drop_zero, List.nil_append, List.cons_append, List.length_cons, List.length_nil, eqvs_dgs, l0, c1]
  · rw [decide_eq_false h]
    have h0 : ieqb (r.length : Int) ls.length = false := ieqb_f (by omega)
    unfold FS
    simp (maxSteps := 1000000) (disch := omega) [getCells, takeN, dropN, fieldAddrA, allOne, AV.one, n_push, putN, overN, blt_dec, buildA, sizesOf, fillA, putCells, List.take_succ_cons, List.take_zero, List.drop_succ_cons, List.drop_zero, List.nil_append, List.cons_append, List.length_cons, List.length_nil, eqvs_dgs, l0, h0]

noncomputable def b131 : Code := Try.f131.body.getD .skip
noncomputable def B131_0 : Code := (bodyC (bodyC (sndC (fstC (sndC b131)))))
noncomputable def K131_0 : List It := .lp B131_0 :: .blk 0 :: .code (sndC (sndC b131)) :: []
theorem xl131_0 {fi : FI} {env : Env} {σ : St} : exI TT fi K131_0 env σ = exI TT fi (.code B131_0 :: K131_0) env σ := by unfold K131_0; exact xI_lp
noncomputable def R131_0_0 : List It := .code (sndC (sndC b131)) :: []
theorem eK131_0_0 : exitA 0 K131_0 = some R131_0_0 := rfl
set_option maxHeartbeats 4000000 in
theorem s131t (n b i : Nat) (cells : List AV) (v : AV) (σ : St) (hi : i < n) (l1 : cellsAt σ (.lp cells i) 1 = some [v]) (c1 : callI TT 66 [v, .ptr b 0] σ = some (.bool true, σ)) :
    exI TT (FI.of Try.f131 (TT.an 131)) K131_0 [(0, .lst n cells), (1, .fn 66 [] [.ptr b 0]), (7, .int .i64 n), (8, .int .i64 i)] σ = some (.int .i64 i, σ) := by
  rw [fi131]
  conv => lhs; rw [xl131_0]
  simp only [B131_0, b131, Try.f131, Option.getD, fstC, sndC, bodyC, thnC, elsC]
  simp (maxSteps := 1000000) (disch := omega) [eK131_0_0, getCells, takeN, dropN, fieldAddrA, allOne, AV.one, n_push, putN, overN, blt_dec, buildA, sizesOf, fillA, putCells, List.take_succ_cons, List.take_zero, List.drop_succ_cons, List.drop_zero, List.nil_append, List.cons_append, List.length_cons, List.length_nil, eqvs_dgs, List.append_nil, hi, l1, c1]
set_option maxHeartbeats 4000000 in
theorem s131f (n b i : Nat) (cells : List AV) (v : AV) (σ : St) (hi : i < n) (l1 : cellsAt σ (.lp cells i) 1 = some [v]) (c1 : callI TT 66 [v, .ptr b 0] σ = some (.bool false, σ)) (hw : wrapA .i64 ((i : Int) + 1) = (i : Int) + 1) :
    exI TT (FI.of Try.f131 (TT.an 131)) K131_0 [(0, .lst n cells), (1, .fn 66 [] [.ptr b 0]), (7, .int .i64 n), (8, .int .i64 i)] σ = exI TT (FI.of Try.f131 (TT.an 131)) K131_0 [(0, .lst n cells), (1, .fn 66 [] [.ptr b 0]), (7, .int .i64 n), (8, .int .i64 ((i : Int) + 1))] σ := by
  rw [fi131]
  conv => lhs; rw [xl131_0]
  simp only [B131_0, b131, Try.f131, Option.getD, fstC, sndC, bodyC, thnC, elsC]
  simp (maxSteps := 1000000) (disch := omega) [eK131_0_0, getCells, takeN, dropN, fieldAddrA, allOne, AV.one, n_push, putN, overN, blt_dec, buildA, sizesOf, fillA, putCells, List.take_succ_cons, List.take_zero, List.drop_succ_cons, List.drop_zero, List.nil_append, List.cons_append, List.length_cons, List.length_nil, eqvs_dgs, List.append_nil, hi, l1, c1, hw]
set_option maxHeartbeats 4000000 in
theorem e131 (n b : Nat) (cells : List AV) (σ : St)  :
    exI TT (FI.of Try.f131 (TT.an 131)) K131_0 [(0, .lst n cells), (1, .fn 66 [] [.ptr b 0]), (7, .int .i64 n), (8, .int .i64 n)] σ = some (.int .i64 (-1), σ) := by
  rw [fi131]
  conv => lhs; rw [xl131_0]
  simp only [B131_0, b131, Try.f131, Option.getD, fstC, sndC, bodyC, thnC, elsC]
  simp (maxSteps := 1000000) (disch := omega) [eK131_0_0, cellsAt, getCells, takeN, dropN, fieldAddrA, allOne, AV.one, n_push, storeCellsA, putN, overN, St.push, St.get, St.set, hget, hset, blt_dec, buildA, sizesOf, fillA, putCells, List.take_succ_cons, List.take_zero, List.drop_succ_cons, List.drop_zero, List.nil_append, List.cons_append, List.length_cons, List.length_nil, eqvs_dgs]
  simp only [R131_0_0, b131, Try.f131, Option.getD, fstC, sndC, bodyC, thnC, elsC]
  simp (maxSteps := 1000000) (disch := omega) [eK131_0_0, getCells, takeN, dropN, fieldAddrA, allOne, AV.one, n_push, putN, overN, blt_dec, buildA, sizesOf, fillA, putCells, List.take_succ_cons, List.take_zero, List.drop_succ_cons, List.drop_zero, List.nil_append, List.cons_append, List.length_cons, List.length_nil, eqvs_dgs]
set_option maxHeartbeats 4000000 in
theorem b131e (n b : Nat) (cells : List AV) (σ : St)  :
    exI TT (FI.of Try.f131 (TT.an 131)) [.code b131] (paramsE 0 [.lst n cells, .fn 66 [] [.ptr b 0]]) σ = exI TT (FI.of Try.f131 (TT.an 131)) K131_0 [(0, .lst n cells), (1, .fn 66 [] [.ptr b 0]), (7, .int .i64 n), (8, .int .i64 0)] σ := by
  rw [fi131]
  simp only [b131, Try.f131, Option.getD, fstC, sndC, bodyC, thnC, elsC]
  simp (maxSteps := 1000000) (disch := omega) [eK131_0_0, getCells, takeN, dropN, fieldAddrA, allOne, AV.one, n_push, putN, overN, blt_dec, buildA, sizesOf, fillA, putCells, List.take_succ_cons, List.take_zero, List.drop_succ_cons, List.drop_zero, List.nil_append, List.cons_append, List.length_cons, List.length_nil, eqvs_dgs]
  rfl
theorem l131 (ls : List (List (Int × Int))) (hs : ls.length ≤ 6) (hr : ∀ r ∈ ls, r.length ≤ 10000000) (b : Nat) (σ : St) (l0 : cellsAt σ (.ptr b 0) 1 = some [FSS ls]) : ∀ (m i : Nat), i + m = ls.length → ∃ z : Int, exI TT (FI.of Try.f131 (TT.an 131)) K131_0 [(0, FSS ls), (1, .fn 66 [] [.ptr b 0]), (7, .int .i64 ls.length), (8, .int .i64 i)] σ = some (.int .i64 z, σ) ∧ decide (0 ≤ z) = !(ls.drop i).all (rowOk ls.length) := by
  intro m
  induction m with
  | zero =>
    intro i hi
    obtain rfl : i = ls.length := by omega
    rw [List.drop_of_length_le (Nat.le_refl _)]
    exact ⟨-1, e131 _ b _ σ, rfl⟩
  | succ m ih =>
    intro i hi
    have hil : i < ls.length := by omega
    obtain ⟨z, h, h2⟩ := ih (i + 1) (by omega)
    have hi1 : ((i + 1 : Nat) : Int) = (i : Int) + 1 := by omega
    rw [hi1] at h
    have c1 := r66 ls ls[i] (hr _ (List.getElem_mem hil)) b σ l0
    rw [List.drop_eq_getElem_cons hil, List.all_cons]
    cases hc : rowOk ls.length ls[i] with
    | true =>
      rw [hc] at c1
      refine ⟨z, ?_, by rw [h2, Bool.true_and]⟩
      rw [← h]
      exact s131f ls.length b i (flat F1 ls) _ σ hil (FSS_get hil σ) c1 (wrapA_id (by omega) (by omega))
    | false =>
      rw [hc] at c1
      exact ⟨i, s131t ls.length b i (flat F1 ls) _ σ hil (FSS_get hil σ) c1, by rw [Bool.false_and]; exact decide_eq_true (by omega)⟩
theorem r131 (ls : List (List (Int × Int))) (hs : ls.length ≤ 6) (hr : ∀ r ∈ ls, r.length ≤ 10000000) (b : Nat) (σ : St) (l0 : cellsAt σ (.ptr b 0) 1 = some [FSS ls]) : ∃ z : Int, callI TT 131 [FSS ls, .fn 66 [] [.ptr b 0]] σ = some (.int .i64 z, σ) ∧ decide (0 ≤ z) = !ls.all (rowOk ls.length) := by
  obtain ⟨z, h1, h2⟩ := l131 ls hs hr b σ l0 ls.length 0 (by omega)
  exact ⟨z, by rw [cI_0 (c := b131) fn131 rfl md131]; exact (b131e _ b _ σ).trans h1, by rw [h2, List.drop_zero]⟩

theorem r65 (ls : List (List (Int × Int))) (hs : ls.length ≤ 6) (hr : ∀ r ∈ ls, r.length ≤ 10000000) (b : Nat) (σ : St) (l0 : cellsAt σ (.ptr b 0) 1 = some [FSS ls]) : callI TT 65 [FSS ls, .fn 66 [] [.ptr b 0]] σ = some (.bool (!ls.all (rowOk ls.length)), σ) := by
  obtain ⟨z, h1, h2⟩ := r131 ls hs hr b σ l0
  rw [cI_0 fn65 rfl md65, fi65, ← h2]
  unfold FSS at *
  by_cases h : 0 ≤ z
  · rw [decide_eq_true h]
    simp (maxSteps := 1000000) (disch := omega) [getCells, takeN, dropN, fieldAddrA, allOne, AV.one, n_push, putN, overN, blt_dec, buildA, sizesOf, fillA, putCells, List.take_succ_cons, List.take_zero, List.drop_succ_cons, List.drop_zero, List.nil_append, List.cons_append, List.length_cons, List.length_nil, eqvs_dgs, h1]
  · rw [decide_eq_false h]
    have h' : z < 0 := by omega
    simp (maxSteps := 1000000) (disch := omega) [getCells, takeN, dropN, fieldAddrA, allOne, AV.one, n_push, putN, overN, blt_dec, buildA, sizesOf, fillA, putCells, List.take_succ_cons, List.take_zero, List.drop_succ_cons, List.drop_zero, List.nil_append, List.cons_append, List.length_cons, List.length_nil, eqvs_dgs, h1]

set_option maxHeartbeats 4000000 in
theorem k22f (n : Nat) (cells : List AV) (σ0 : St) (h1 : (⟨[], 0⟩ : St).push ⟨[.lst n cells], 1, false⟩ = σ0) (l0 : cellsAt σ0 (.ptr 0 0) 1 = some [.lst n cells]) (c1 : callI TT 64 [.lst n cells] σ0 = some (.int .i64 n, σ0)) (c2 : callI TT 63 [.int .i64 n, .int .i64 1, .int .i64 6] σ0 = some (.bool false, σ0)) :
    ∃ σ', exI TT (FI.of Try.f22 (TT.an 22)) [.code (Try.f22.body.getD .skip)] (paramsE 0 [.agg [.lst n cells]]) ⟨[], 0⟩ = some (.bool false, σ') := by
  refine ex1 ?_
  rw [fi22]
  simp only [Try.f22, Option.getD]
  simp (maxSteps := 1000000) (disch := omega) [getCells, takeN, dropN, fieldAddrA, allOne, AV.one, n_push, putN, overN, blt_dec, buildA, sizesOf, fillA, putCells, List.take_succ_cons, List.take_zero, List.drop_succ_cons, List.drop_zero, List.nil_append, List.cons_append, List.length_cons, List.length_nil, eqvs_dgs, h1, l0, c1, c2]
set_option maxHeartbeats 4000000 in
theorem k22t (n : Nat) (cells : List AV) (σ0 : St) (z : Bool) (h1 : (⟨[], 0⟩ : St).push ⟨[.lst n cells], 1, false⟩ = σ0) (l0 : cellsAt σ0 (.ptr 0 0) 1 = some [.lst n cells]) (c1 : callI TT 64 [.lst n cells] σ0 = some (.int .i64 n, σ0)) (c2 : callI TT 63 [.int .i64 n, .int .i64 1, .int .i64 6] σ0 = some (.bool true, σ0)) (c3 : callI TT 65 [.lst n cells, .fn 66 [] [.ptr 0 0]] σ0 = some (.bool (!z), σ0)) :
    ∃ σ', exI TT (FI.of Try.f22 (TT.an 22)) [.code (Try.f22.body.getD .skip)] (paramsE 0 [.agg [.lst n cells]]) ⟨[], 0⟩ = some (.bool z, σ') := by
  refine ex1 ?_
  rw [fi22]
  simp only [Try.f22, Option.getD]
  simp (maxSteps := 1000000) (disch := omega) [getCells, takeN, dropN, fieldAddrA, allOne, AV.one, n_push, putN, overN, blt_dec, buildA, sizesOf, fillA, putCells, List.take_succ_cons, List.take_zero, List.drop_succ_cons, List.drop_zero, List.nil_append, List.cons_append, List.length_cons, List.length_nil, eqvs_dgs, Bool.not_not, h1, l0, c1, c2, c3]
theorem r22 (ls : List (List (Int × Int))) (hr : ∀ r ∈ ls, r.length ≤ 10000000) : FnV TT 22 [.agg [FSS ls]] (.bool (isWk ls)) := by
  have l0 : cellsAt ((⟨[], 0⟩ : St).push ⟨[FSS ls], 1, false⟩) (.ptr 0 0) 1 = some [FSS ls] := Bx.rd (Bx.push (σ := ⟨[], 0⟩) (vs := [FSS ls]) (m := 1)) rfl
  have c1 := fun σ : St => r64 ls.length (flat F1 ls) σ [FSS ls] rfl
  have c2 := fun σ : St => v63 ls.length 1 6 σ [.int .i64 ls.length, .int .i64 1, .int .i64 6] rfl
  unfold isWk
  by_cases h : 1 ≤ ls.length ∧ ls.length ≤ 6
  · have e : (decide ((1 : Int) ≤ (ls.length : Int)) && decide ((ls.length : Int) ≤ 6)) = true := by
      rw [decide_eq_true (by omega), decide_eq_true (by omega)]; rfl
    rw [e] at c2
    rw [decide_eq_true h.1, decide_eq_true h.2, Bool.true_and, Bool.true_and]
    exact FnV.mk fn22 rfl md22 (k22t _ _ _ _ rfl l0 (c1 _) (c2 _) (r65 ls h.2 hr 0 _ l0)) (fun _ => rfl) rfl
  · have e : (decide ((1 : Int) ≤ (ls.length : Int)) && decide ((ls.length : Int) ≤ 6)) = false := by
      by_cases h1 : 1 ≤ ls.length
      · rw [decide_eq_false (show ¬ (ls.length : Int) ≤ 6 by omega), Bool.and_false]
      · rw [decide_eq_false (show ¬ (1 : Int) ≤ (ls.length : Int) by omega)]; rfl
    rw [e] at c2
    have e2 : (decide (1 ≤ ls.length) && decide (ls.length ≤ 6)) = false := by
      by_cases h1 : 1 ≤ ls.length
      · rw [decide_eq_false (show ¬ ls.length ≤ 6 by omega), Bool.and_false]
      · rw [decide_eq_false h1]; rfl
    rw [e2, Bool.false_and]
    exact FnV.mk fn22 rfl md22 (k22f _ _ _ rfl l0 (c1 _) (c2 _)) (fun _ => rfl) rfl
theorem fits_walk {xs : List AV} (h : Fits [.sl [.sl [.int .i64, .int .i64]]] xs) : ∃ ls : List (List (Int × Int)), xs = [FSS ls] ∧ ls.length ≤ maxLen ∧ ∀ r ∈ ls, r.length ≤ maxLen := by
  simp only [Fits] at h
  obtain ⟨a, _, rfl, h, rfl⟩ := h
  unfold Fit at h
  obtain ⟨rows, rfl, hm, h⟩ := h
  have : ∀ rows : List (List AV), (∀ r ∈ rows, Fits [.sl [.int .i64, .int .i64]] r) → ∃ ls : List (List (Int × Int)), ls.length = rows.length ∧ rows.flatten = flat F1 ls ∧ ∀ r ∈ ls, r.length ≤ maxLen := by
    intro rows
    induction rows with
    | nil => intro _; exact ⟨[], rfl, rfl, by simp⟩
    | cons r t ih =>
      intro h
      obtain ⟨ls, h1, h2, h3⟩ := ih fun y hy => h y (by simp [hy])
      have h4 := h r (by simp)
      simp only [Fits] at h4
      obtain ⟨b, _, rfl, hb, rfl⟩ := h4
      obtain ⟨l, rfl, hl⟩ := fits_frs hb
      refine ⟨l :: ls, by simp [h1], by simp [h2, flat, F1], fun r hr => ?_⟩
      rcases List.mem_cons.1 hr with rfl | hr
      · exact hl
      · exact h3 r hr
  obtain ⟨ls, h1, h2, h3⟩ := this rows h
  exact ⟨ls, by rw [FSS, h1, h2], by omega, h3⟩

set_option maxHeartbeats 4000000 in
theorem z4 (n : Nat) (cells : List AV) (z : Int) (c1 : ∀ σ, callI TT 19 [.agg [.lst n cells], .int .i64 1048576] σ = some (.int .i64 z, σ)) (hz : z < 0) :
    ∃ σ', exI TT (FI.of Try.f4 (TT.an 4)) [.code (Try.f4.body.getD .skip)] (paramsE 0 [.agg [.lst n cells]]) ⟨[], 0⟩ = some (.bool true, σ') := by
  refine ex1 ?_
  rw [fi4]
  simp only [Try.f4, Option.getD]
  simp (maxSteps := 1000000) (disch := omega) [cellsAt, getCells, takeN, dropN, fieldAddrA, allOne, AV.one, n_push, storeCellsA, putN, overN, St.push, St.get, St.set, hget, hset, blt_dec, buildA, sizesOf, fillA, putCells, List.take_succ_cons, List.take_zero, List.drop_succ_cons, List.drop_zero, List.nil_append, List.cons_append, List.length_cons, List.length_nil, eqvs_dgs, c1, hz]
set_option maxHeartbeats 4000000 in
theorem k4 (n : Nat) (cells : List AV) (z : Int) (b : Bool) (c1 : ∀ σ, callI TT 19 [.agg [.lst n cells], .int .i64 1048576] σ = some (.int .i64 z, σ)) (hz : 0 ≤ z) (c2 : ∀ σ, callI TT 21 [.agg [.lst n cells]] σ = some (.agg [.lst n cells], σ)) (c3 : ∀ σ, callI TT 20 [.agg [.lst n cells]] σ = some (.bool b, σ)) (c4 : ∀ σ, callI TT 22 [.agg [.lst n cells]] σ = some (.bool b, σ)) (c5 : ∀ σ, callI TT 23 [.agg [.lst n cells], .agg [.lst n cells]] σ = some (.bool true, σ)) (he : eqvs cells cells = true) :
    ∃ σ', exI TT (FI.of Try.f4 (TT.an 4)) [.code (Try.f4.body.getD .skip)] (paramsE 0 [.agg [.lst n cells]]) ⟨[], 0⟩ = some (.bool true, σ') := by
  refine ex1 ?_
  rw [fi4]
  simp only [Try.f4, Option.getD]
  cases b <;>
  simp (maxSteps := 1000000) (disch := omega) [cellsAt, getCells, takeN, dropN, fieldAddrA, allOne, AV.one, n_push, storeCellsA, putN, overN, St.push, St.get, St.set, hget, hset, blt_dec, buildA, sizesOf, fillA, putCells, List.take_succ_cons, List.take_zero, List.drop_succ_cons, List.drop_zero, List.nil_append, List.cons_append, List.length_cons, List.length_nil, eqvs_dgs, c1, hz, c2, c3, c4, c5, he]
theorem w4 (ls : List (List (Int × Int))) (hn : ls.length ≤ maxLen) (hr : ∀ r ∈ ls, r.length ≤ maxLen) : FnV TT 4 [.agg [FSS ls]] (.bool true) := by
  obtain ⟨z, c1, c2⟩ := r19 ls hn hr
  have c1 := fun σ : St => c1 σ [.agg [FSS ls], .int .i64 1048576] rfl
  by_cases hz : 0 ≤ z
  · obtain ⟨h1, h2⟩ := c2 hz
    have hs : ls.length ≤ 10000000 := by omega
    have hr' : ∀ r ∈ ls, r.length ≤ 10000000 := fun r hr => Nat.le_trans (h2 r hr) (by decide)
    exact FnV.mk fn4 rfl md4 (k4 _ _ z _ c1 hz (fun σ => (r21 ls hs hr').pure σ rfl rfl) (fun σ => r20 ls hr' σ [.agg [FSS ls]] rfl) (fun σ => r22 ls hr' σ [.agg [FSS ls]] rfl) (fun σ => r23 ls hs hr' σ [.agg [FSS ls], .agg [FSS ls]] rfl) (F1_eqv ls)) (fun _ => rfl) rfl
  · exact FnV.mk fn4 rfl md4 (z4 _ _ z c1 (by omega)) (fun _ => rfl) rfl

end Go.Proofs.Ytihoeimlkbjgmaa
