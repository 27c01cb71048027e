/- Contracts: how fractions compare. Nothing is claimed here; no condition. -/
import Derived.Test.YtjecbjnckbihoaaDoorQc
namespace Go.Proofs.YtjecbjnckbihoaaDoor
open Go Go.Abs Go.Nm
set_option linter.unusedSimpArgs false
set_option linter.unusedVariables false
def flat {α : Type} (f : α → List AV) (l : List α) : List AV := l.flatMap f
theorem flat_len {α : Type} {f : α → List AV} {w : Nat} (hf : ∀ x, (f x).length = w) : ∀ l : List α, (flat f l).length = l.length * w
  | [] => by simp [flat]
  | x :: r => by
    have := flat_len hf r
    simp only [flat, List.flatMap_cons, List.length_append, List.length_cons] at this ⊢
    rw [this, hf, Nat.add_mul]; omega
theorem flat_get {α : Type} {f : α → List AV} {w : Nat} (hf : ∀ x, (f x).length = w) : ∀ (l : List α) (i : Nat) (x : α), l[i]? = some x → getCells (flat f l) (i * w) w = some (f x)
  | [], i, x, h => by simp at h
  | y :: r, 0, x, h => by
    simp at h; subst h
    rw [getCells_eq, flat, List.flatMap_cons, if_pos (by simp [hf]), Nat.zero_mul, List.drop_zero, List.take_left' (hf y)]
  | y :: r, i + 1, x, h => by
    have ih := flat_get hf r i x (by simpa using h)
    rw [getCells_eq] at ih ⊢
    split at ih
    · rename_i hl
      have e : (i + 1) * w = (f y).length + i * w := by rw [hf, Nat.add_mul]; omega
      simp only [flat, List.flatMap_cons, List.length_append] at hl ⊢
      rw [if_pos (by rw [e]; omega), e, ← List.drop_drop, List.drop_left]
      exact ih
    · cases ih

/-- Fractions as they come in. -/
def FC (x : Int × Int) : List AV := [.int .i64 x.1, .int .i64 x.2]
theorem FC_len (x : Int × Int) : (FC x).length = 2 := rfl
theorem FC_one (x : Int × Int) : allOne (FC x) = true := rfl
def FS (l : List (Int × Int)) : AV := .lst l.length (flat FC l)
theorem FS_get {l : List (Int × Int)} {i : Nat} (h : i < l.length) (σ : St) : cellsAt σ (.lp (flat FC l) (i * 2)) 2 = some (FC l[i]) := flat_get FC_len l i _ (List.getElem?_eq_getElem h)

def vfl (l : List (Int × Int)) : Bool := l.all fun x => vfr x.1 x.2
theorem r39 (n d : Int) : FnV TT 39 [.agg [.int .i64 n, .int .i64 d]] (.bool (!vfr n d)) := by
  refine FnV.mk (c := Tryd.f39.body.getD .skip) fn39 rfl md39 (ex1 ?_) (fun _ => rfl) rfl
  have c1 := fun σ : St => v40 n d σ [.agg [.int .i64 n, .int .i64 d]] rfl
  rw [fi39]
  simp only [Tryd.f39, Option.getD]
  simp (maxSteps := 1000000) (disch := omega) [xI_seq, xI_region, xI_ret, regA, regOps, runOps, opStep, wantedA, opA, evo, evos, calleeA, lk, nif_eq, putE, paramsE, valS, val2, keepE, restrict, finA, resA, binA, binInt, ofConst, ofConst1, loadA, TK.isAgg, asVar, unA, builtinA, lenOpA, lenA, indexAddrA, evPairs, storeA, AV.cellsOf, pairsOf, xI_nil, binBool, gcE, evOpt, runTr, pairsOk, pairOk, sameVal, AV.eqv, lastOf, lstAt, eqvs, boundA, indexA, regF, twoOf, prsOf, memI, runTrF, selF, runTr2, freshOp, scals, AV.scal, tagZ, isI64, pureLd, loadP, boxP, xI_block, xI_loopH, xI_condM, xI_exitM, xI_skip, xI_blk, exitA, List.getElem?_cons_zero, List.getElem?_cons_succ, List.getElem?_toArray, List.getElem?_nil, ileb_t, ileb_f, ieqb_t, ieqb_f, inB_t, wrapA_id, lp_read, ieqb_self, Nat.blt_eq, cond_true, cond_false, ty4, ty31, cellsAt, getCells, takeN, dropN, fieldAddrA, allOne, AV.one, n_push, storeCellsA, putN, overN, St.push, St.get, St.set, hget, hset, blt_dec, buildA, sizesOf, fillA, putCells, List.take_succ_cons, List.take_zero, List.drop_succ_cons, List.drop_zero, List.nil_append, List.cons_append, List.length_cons, List.length_nil, eqvs_dgs, ty2, ty3, ty26, ty41, ty43, ty61, c1]

noncomputable def b54 : Code := Tryd.f54.body.getD .skip
noncomputable def B54_0 : Code := (bodyC (bodyC (sndC (fstC (sndC b54)))))
noncomputable def K54_0 : List It := .lp B54_0 :: .blk 0 :: .code (sndC (sndC b54)) :: []
theorem xl54_0 {fi : FI} {env : Env} {σ : St} : exI TT fi K54_0 env σ = exI TT fi (.code B54_0 :: K54_0) env σ := by unfold K54_0; exact xI_lp
noncomputable def R54_0_0 : List It := .code (sndC (sndC b54)) :: []
theorem eK54_0_0 : exitA 0 K54_0 = some R54_0_0 := rfl
theorem s54t (n i : Nat) (cells x : List AV) (σ : St) (hi : i < n) (r1 : cellsAt σ (.lp cells (i * 2)) 2 = some x) (c1 : callI TT 39 [.agg x] σ = some (.bool true, σ)) :
    exI TT (FI.of Tryd.f54 (TT.an 54)) K54_0 [(0, .lst n cells), (1, .fn 39 [] []), (7, .int .i64 n), (8, .int .i64 i)] σ = some (.int .i64 i, σ) := by
  rw [fi54, xl54_0]
  simp only [B54_0, b54, Tryd.f54, Option.getD, fstC, sndC, bodyC, thnC, elsC]
  simp (maxSteps := 1000000) (disch := omega) [xI_seq, xI_region, xI_ret, regA, regOps, runOps, opStep, wantedA, opA, evo, evos, calleeA, lk, nif_eq, putE, paramsE, valS, val2, keepE, restrict, finA, resA, binA, binInt, ofConst, ofConst1, loadA, TK.isAgg, asVar, unA, builtinA, lenOpA, lenA, indexAddrA, evPairs, storeA, AV.cellsOf, pairsOf, xI_nil, binBool, gcE, evOpt, runTr, pairsOk, pairOk, sameVal, AV.eqv, lastOf, lstAt, eqvs, boundA, indexA, regF, twoOf, prsOf, memI, runTrF, selF, runTr2, freshOp, scals, AV.scal, tagZ, isI64, pureLd, loadP, boxP, xI_block, xI_loopH, xI_condM, xI_exitM, xI_skip, xI_blk, exitA, List.getElem?_cons_zero, List.getElem?_cons_succ, List.getElem?_toArray, List.getElem?_nil, ileb_t, ileb_f, ieqb_t, ieqb_f, inB_t, wrapA_id, lp_read, ieqb_self, Nat.blt_eq, cond_true, cond_false, ty3, ty31, ty61, eK54_0_0, ty31, ty61, r1, c1, List.append_nil, List.nil_append]
theorem s54f (n i : Nat) (cells x : List AV) (σ : St) (hi : i < n) (r1 : cellsAt σ (.lp cells (i * 2)) 2 = some x) (c1 : callI TT 39 [.agg x] σ = some (.bool false, σ)) (hw : wrapA .i64 ((i : Int) + 1) = (i : Int) + 1) :
    exI TT (FI.of Tryd.f54 (TT.an 54)) K54_0 [(0, .lst n cells), (1, .fn 39 [] []), (7, .int .i64 n), (8, .int .i64 i)] σ = exI TT (FI.of Tryd.f54 (TT.an 54)) K54_0 [(0, .lst n cells), (1, .fn 39 [] []), (7, .int .i64 n), (8, .int .i64 ((i : Int) + 1))] σ := by
  rw [fi54]
  conv => lhs; rw [xl54_0]
  simp only [B54_0, b54, Tryd.f54, Option.getD, fstC, sndC, bodyC, thnC, elsC]
  simp (maxSteps := 1000000) (disch := omega) [xI_seq, xI_region, xI_ret, regA, regOps, runOps, opStep, wantedA, opA, evo, evos, calleeA, lk, nif_eq, putE, paramsE, valS, val2, keepE, restrict, finA, resA, binA, binInt, ofConst, ofConst1, loadA, TK.isAgg, asVar, unA, builtinA, lenOpA, lenA, indexAddrA, evPairs, storeA, AV.cellsOf, pairsOf, xI_nil, binBool, gcE, evOpt, runTr, pairsOk, pairOk, sameVal, AV.eqv, lastOf, lstAt, eqvs, boundA, indexA, regF, twoOf, prsOf, memI, runTrF, selF, runTr2, freshOp, scals, AV.scal, tagZ, isI64, pureLd, loadP, boxP, xI_block, xI_loopH, xI_condM, xI_exitM, xI_skip, xI_blk, exitA, List.getElem?_cons_zero, List.getElem?_cons_succ, List.getElem?_toArray, List.getElem?_nil, ileb_t, ileb_f, ieqb_t, ieqb_f, inB_t, wrapA_id, lp_read, ieqb_self, Nat.blt_eq, cond_true, cond_false, ty3, ty31, ty61, eK54_0_0, ty31, ty61, r1, c1, hw, List.append_nil, List.nil_append]
theorem e54 (n : Nat) (cells : List AV) (σ : St) : exI TT (FI.of Tryd.f54 (TT.an 54)) K54_0 [(0, .lst n cells), (1, .fn 39 [] []), (7, .int .i64 n), (8, .int .i64 n)] σ = some (.int .i64 (-1), σ) := by
  rw [fi54, xl54_0]
  simp only [B54_0, b54, Tryd.f54, Option.getD, fstC, sndC, bodyC, thnC, elsC]
  simp (maxSteps := 1000000) (disch := omega) [xI_seq, xI_region, xI_ret, regA, regOps, runOps, opStep, wantedA, opA, evo, evos, calleeA, lk, nif_eq, putE, paramsE, valS, val2, keepE, restrict, finA, resA, binA, binInt, ofConst, ofConst1, loadA, TK.isAgg, asVar, unA, builtinA, lenOpA, lenA, indexAddrA, evPairs, storeA, AV.cellsOf, pairsOf, xI_nil, binBool, gcE, evOpt, runTr, pairsOk, pairOk, sameVal, AV.eqv, lastOf, lstAt, eqvs, boundA, indexA, regF, twoOf, prsOf, memI, runTrF, selF, runTr2, freshOp, scals, AV.scal, tagZ, isI64, pureLd, loadP, boxP, xI_block, xI_loopH, xI_condM, xI_exitM, xI_skip, xI_blk, exitA, List.getElem?_cons_zero, List.getElem?_cons_succ, List.getElem?_toArray, List.getElem?_nil, ileb_t, ileb_f, ieqb_t, ieqb_f, inB_t, wrapA_id, lp_read, ieqb_self, Nat.blt_eq, cond_true, cond_false, ty3, ty31, ty61, eK54_0_0]
  simp only [R54_0_0, b54, Tryd.f54, Option.getD, fstC, sndC, bodyC, thnC, elsC]
  simp (maxSteps := 1000000) (disch := omega) [xI_seq, xI_region, xI_ret, regA, regOps, runOps, opStep, wantedA, opA, evo, evos, calleeA, lk, nif_eq, putE, paramsE, valS, val2, keepE, restrict, finA, resA, binA, binInt, ofConst, ofConst1, loadA, TK.isAgg, asVar, unA, builtinA, lenOpA, lenA, indexAddrA, evPairs, storeA, AV.cellsOf, pairsOf, xI_nil, binBool, gcE, evOpt, runTr, pairsOk, pairOk, sameVal, AV.eqv, lastOf, lstAt, eqvs, boundA, indexA, regF, twoOf, prsOf, memI, runTrF, selF, runTr2, freshOp, scals, AV.scal, tagZ, isI64, pureLd, loadP, boxP, xI_block, xI_loopH, xI_condM, xI_exitM, xI_skip, xI_blk, exitA, List.getElem?_cons_zero, List.getElem?_cons_succ, List.getElem?_toArray, List.getElem?_nil, ileb_t, ileb_f, ieqb_t, ieqb_f, inB_t, wrapA_id, lp_read, ieqb_self, Nat.blt_eq, cond_true, cond_false, ty3, ty31, ty61, eK54_0_0]
theorem l54 (l : List (Int × Int)) (hs : l.length ≤ 10000000) (σ : St) : ∀ (m i : Nat), i + m = l.length → ∃ z : Int, exI TT (FI.of Tryd.f54 (TT.an 54)) K54_0 [(0, FS l), (1, .fn 39 [] []), (7, .int .i64 l.length), (8, .int .i64 i)] σ = some (.int .i64 z, σ) ∧ (0 ≤ z ↔ vfl (l.drop i) = false) := by
  intro m
  induction m with
  | zero =>
    intro i hi
    obtain rfl : i = l.length := by omega
    rw [List.drop_of_length_le (Nat.le_refl _)]
    exact ⟨-1, e54 l.length (flat FC l) σ, by simp [vfl]⟩
  | succ m ih =>
    intro i hi
    have hil : i < l.length := by omega
    have c1 := r39 l[i].1 l[i].2 σ [.agg (FC l[i])] rfl
    rw [List.drop_eq_getElem_cons hil]
    have hi1 : ((i + 1 : Nat) : Int) = (i : Int) + 1 := by omega
    cases hv : vfr l[i].1 l[i].2 with
    | true =>
      rw [hv] at c1
      obtain ⟨z, h1, h2⟩ := ih (i + 1) (by omega)
      rw [hi1] at h1
      have e : vfl (l[i] :: l.drop (i + 1)) = vfl (l.drop (i + 1)) := by unfold vfl; rw [List.all_cons, hv, Bool.true_and]
      refine ⟨z, ?_, by rw [e]; exact h2⟩
      rw [← h1]
      exact s54f l.length i (flat FC l) _ σ hil (FS_get hil σ) c1 (wrapA_id (by omega) (by omega))
    | false =>
      rw [hv] at c1
      have e : vfl (l[i] :: l.drop (i + 1)) = false := by unfold vfl; rw [List.all_cons, hv, Bool.false_and]
      exact ⟨i, s54t l.length i (flat FC l) _ σ hil (FS_get hil σ) c1, by rw [e]; simp⟩
theorem r54 (l : List (Int × Int)) (hs : l.length ≤ 10000000) (σ : St) : ∃ z : Int, callI TT 54 [FS l, .fn 39 [] []] σ = some (.int .i64 z, σ) ∧ (0 ≤ z ↔ vfl l = false) := by
  obtain ⟨z, h1, h2⟩ := l54 l hs σ l.length 0 (by omega)
  rw [List.drop_zero] at h2
  refine ⟨z, ?_, h2⟩
  rw [← h1, cI_0 fn54 rfl md54, fi54]
  unfold FS
  simp (maxSteps := 1000000) (disch := omega) [xI_seq, xI_region, xI_ret, regA, regOps, runOps, opStep, wantedA, opA, evo, evos, calleeA, lk, nif_eq, putE, paramsE, valS, val2, keepE, restrict, finA, resA, binA, binInt, ofConst, ofConst1, loadA, TK.isAgg, asVar, unA, builtinA, lenOpA, lenA, indexAddrA, evPairs, storeA, AV.cellsOf, pairsOf, xI_nil, binBool, gcE, evOpt, runTr, pairsOk, pairOk, sameVal, AV.eqv, lastOf, lstAt, eqvs, boundA, indexA, regF, twoOf, prsOf, memI, runTrF, selF, runTr2, freshOp, scals, AV.scal, tagZ, isI64, pureLd, loadP, boxP, xI_block, xI_loopH, xI_condM, xI_exitM, xI_skip, xI_blk, exitA, List.getElem?_cons_zero, List.getElem?_cons_succ, List.getElem?_toArray, List.getElem?_nil, ileb_t, ileb_f, ieqb_t, ieqb_f, inB_t, wrapA_id, lp_read, ieqb_self, Nat.blt_eq, cond_true, cond_false, ty3, ty31, ty61, eK54_0_0]
  rfl

theorem r38 (l : List (Int × Int)) (hs : l.length ≤ 10000000) (σ : St) : callI TT 38 [FS l, .fn 39 [] []] σ = some (.bool (!vfl l), σ) := by
  obtain ⟨z, h1, h2⟩ := r54 l hs σ
  rw [cI_0 fn38 rfl md38, fi38]
  unfold FS at *
  cases hv : vfl l with
  | true =>
    have : z < 0 := by
      rw [hv] at h2
      refine Int.not_le.1 fun h => ?_
      have := h2.1 h
      cases this
    simp (maxSteps := 1000000) (disch := omega) [xI_seq, xI_region, xI_ret, regA, regOps, runOps, opStep, wantedA, opA, evo, evos, calleeA, lk, nif_eq, putE, paramsE, valS, val2, keepE, restrict, finA, resA, binA, binInt, ofConst, ofConst1, loadA, TK.isAgg, asVar, unA, builtinA, lenOpA, lenA, indexAddrA, evPairs, storeA, AV.cellsOf, pairsOf, xI_nil, binBool, gcE, evOpt, runTr, pairsOk, pairOk, sameVal, AV.eqv, lastOf, lstAt, eqvs, boundA, indexA, regF, twoOf, prsOf, memI, runTrF, selF, runTr2, freshOp, scals, AV.scal, tagZ, isI64, pureLd, loadP, boxP, xI_block, xI_loopH, xI_condM, xI_exitM, xI_skip, xI_blk, exitA, List.getElem?_cons_zero, List.getElem?_cons_succ, List.getElem?_toArray, List.getElem?_nil, ileb_t, ileb_f, ieqb_t, ieqb_f, inB_t, wrapA_id, lp_read, ieqb_self, Nat.blt_eq, cond_true, cond_false, ty3, h1]
  | false =>
    have : 0 ≤ z := h2.2 hv
    simp (maxSteps := 1000000) (disch := omega) [xI_seq, xI_region, xI_ret, regA, regOps, runOps, opStep, wantedA, opA, evo, evos, calleeA, lk, nif_eq, putE, paramsE, valS, val2, keepE, restrict, finA, resA, binA, binInt, ofConst, ofConst1, loadA, TK.isAgg, asVar, unA, builtinA, lenOpA, lenA, indexAddrA, evPairs, storeA, AV.cellsOf, pairsOf, xI_nil, binBool, gcE, evOpt, runTr, pairsOk, pairOk, sameVal, AV.eqv, lastOf, lstAt, eqvs, boundA, indexA, regF, twoOf, prsOf, memI, runTrF, selF, runTr2, freshOp, scals, AV.scal, tagZ, isI64, pureLd, loadP, boxP, xI_block, xI_loopH, xI_condM, xI_exitM, xI_skip, xI_blk, exitA, List.getElem?_cons_zero, List.getElem?_cons_succ, List.getElem?_toArray, List.getElem?_nil, ileb_t, ileb_f, ieqb_t, ieqb_f, inB_t, wrapA_id, lp_read, ieqb_self, Nat.blt_eq, cond_true, cond_false, ty3, h1]

theorem r25 (l : List (Int × Int)) (hs : l.length ≤ 10000000) : FnV TT 25 [FS l] (.bool (vfl l)) := by
  have c1 := r38 l hs
  refine FnV.mk (c := Tryd.f25.body.getD .skip) fn25 rfl md25 ⟨⟨[], 0⟩, ?_⟩ (fun _ => rfl) rfl
  rw [fi25]
  simp only [Tryd.f25, Option.getD]
  unfold FS at *
  simp (maxSteps := 1000000) (disch := omega) [xI_seq, xI_region, xI_ret, regA, regOps, runOps, opStep, wantedA, opA, evo, evos, calleeA, lk, nif_eq, putE, paramsE, valS, val2, keepE, restrict, finA, resA, binA, binInt, ofConst, ofConst1, loadA, TK.isAgg, asVar, unA, builtinA, lenOpA, lenA, indexAddrA, evPairs, storeA, AV.cellsOf, pairsOf, xI_nil, binBool, gcE, evOpt, runTr, pairsOk, pairOk, sameVal, AV.eqv, lastOf, lstAt, eqvs, boundA, indexA, regF, twoOf, prsOf, memI, runTrF, selF, runTr2, freshOp, scals, AV.scal, tagZ, isI64, pureLd, loadP, boxP, xI_block, xI_loopH, xI_condM, xI_exitM, xI_skip, xI_blk, exitA, List.getElem?_cons_zero, List.getElem?_cons_succ, List.getElem?_toArray, List.getElem?_nil, ileb_t, ileb_f, ieqb_t, ieqb_f, inB_t, wrapA_id, lp_read, ieqb_self, Nat.blt_eq, cond_true, cond_false, ty4, c1]

theorem bs11 (a b c d : Int) : buildSliceA TT ⟨[(1, ⟨[.int .i64 c, .int .i64 d], 2, false⟩), (0, ⟨[.int .i64 a, .int .i64 b], 2, false⟩)], 2⟩ 61 2 [(0, .agg [.int .i64 a, .int .i64 b]), (1, .agg [.int .i64 c, .int .i64 d])] = some (.sl 2 0 2 2, ⟨[(2, ⟨[.int .i64 a, .int .i64 b, .int .i64 c, .int .i64 d], 2, false⟩), (1, ⟨[.int .i64 c, .int .i64 d], 2, false⟩), (0, ⟨[.int .i64 a, .int .i64 b], 2, false⟩)], 3⟩) := by
  simp [buildSliceA, ty61, ty31, ty2, fillA, repeatCells, putCells, AV.cellsOf, allOne, AV.one, St.push]
set_option maxHeartbeats 4000000 in
theorem k11 (a b c d : Int) (q1 q2 : Rat) (z : Int) (c1 : callI TT 25 [.sl 2 0 2 2] ⟨[(2, ⟨[.int .i64 a, .int .i64 b, .int .i64 c, .int .i64 d], 2, false⟩), (1, ⟨[.int .i64 c, .int .i64 d], 2, false⟩), (0, ⟨[.int .i64 a, .int .i64 b], 2, false⟩)], 3⟩ = some (.bool true, ⟨[(2, ⟨[.int .i64 a, .int .i64 b, .int .i64 c, .int .i64 d], 2, false⟩), (1, ⟨[.int .i64 c, .int .i64 d], 2, false⟩), (0, ⟨[.int .i64 a, .int .i64 b], 2, false⟩)], 3⟩)) (c2 : ∀ σ, callI TT 26 [.agg [.int .i64 a, .int .i64 b]] σ = some (RT q1, σ)) (c3 : ∀ σ, callI TT 26 [.agg [.int .i64 c, .int .i64 d]] σ = some (RT q2, σ)) (c4 : ∀ σ, callI TT 27 [RT q1, RT q2] σ = some (.int .i64 z, σ)) :
    exI TT (FI.of Tryd.f11 (TT.an 11)) [.code (Tryd.f11.body.getD .skip)] (paramsE 0 [.agg [.int .i64 a, .int .i64 b], .agg [.int .i64 c, .int .i64 d]]) ⟨[], 0⟩ = some (.tup [.int .i64 z, .bool true], ⟨[(2, ⟨[.int .i64 a, .int .i64 b, .int .i64 c, .int .i64 d], 2, false⟩), (1, ⟨[.int .i64 c, .int .i64 d], 2, false⟩), (0, ⟨[.int .i64 a, .int .i64 b], 2, false⟩)], 3⟩) := by
  unfold RT at *
  generalize NA (nm q1) = x1 at *
  generalize NA q1.den = x2 at *
  generalize NA (nm q2) = x3 at *
  generalize NA q2.den = x4 at *
  have cb := bs11 a b c d
  rw [fi11]
  simp only [Tryd.f11, Option.getD]
  simp (maxSteps := 1000000) (disch := omega) [xI_seq, xI_region, xI_ret, regA, regOps, runOps, opStep, wantedA, opA, evo, evos, calleeA, lk, nif_eq, putE, paramsE, valS, val2, keepE, restrict, finA, resA, binA, binInt, ofConst, ofConst1, loadA, TK.isAgg, asVar, unA, builtinA, lenOpA, lenA, indexAddrA, evPairs, storeA, AV.cellsOf, pairsOf, xI_nil, binBool, gcE, evOpt, runTr, pairsOk, pairOk, sameVal, AV.eqv, lastOf, lstAt, eqvs, boundA, indexA, regF, twoOf, prsOf, memI, runTrF, selF, runTr2, freshOp, scals, AV.scal, tagZ, isI64, pureLd, loadP, boxP, xI_block, xI_loopH, xI_condM, xI_exitM, xI_skip, xI_blk, exitA, List.getElem?_cons_zero, List.getElem?_cons_succ, List.getElem?_toArray, List.getElem?_nil, ileb_t, ileb_f, ieqb_t, ieqb_f, inB_t, wrapA_id, lp_read, ieqb_self, Nat.blt_eq, cond_true, cond_false, ty4, ty31, ty61, cellsAt, getCells, takeN, dropN, fieldAddrA, allOne, AV.one, n_push, storeCellsA, putN, overN, St.push, St.get, St.set, hget, hset, blt_dec, buildA, sizesOf, fillA, putCells, List.take_succ_cons, List.take_zero, List.drop_succ_cons, List.drop_zero, List.nil_append, List.cons_append, List.length_cons, List.length_nil, eqvs_dgs, ty2, ty3, ty26, ty41, ty43, c1, c2, c3, c4, cb]
theorem v11 {a b c d : Int} (h1 : vfr a b = true) (h2 : vfr c d = true) : FnV TT 11 [.agg [.int .i64 a, .int .i64 b], .agg [.int .i64 c, .int .i64 d]] (.tup [.int .i64 (cmpR (mkRat a b.toNat) (mkRat c d.toNat)), .bool true]) := by
  have c1 : callI TT 25 [.sl 2 0 2 2] ⟨[(2, ⟨[.int .i64 a, .int .i64 b, .int .i64 c, .int .i64 d], 2, false⟩), (1, ⟨[.int .i64 c, .int .i64 d], 2, false⟩), (0, ⟨[.int .i64 a, .int .i64 b], 2, false⟩)], 3⟩ = some (.bool true, ⟨[(2, ⟨[.int .i64 a, .int .i64 b, .int .i64 c, .int .i64 d], 2, false⟩), (1, ⟨[.int .i64 c, .int .i64 d], 2, false⟩), (0, ⟨[.int .i64 a, .int .i64 b], 2, false⟩)], 3⟩) := by
    have := r25 [(a, b), (c, d)] (by simp) ⟨[(2, ⟨[.int .i64 a, .int .i64 b, .int .i64 c, .int .i64 d], 2, false⟩), (1, ⟨[.int .i64 c, .int .i64 d], 2, false⟩), (0, ⟨[.int .i64 a, .int .i64 b], 2, false⟩)], 3⟩ [.sl 2 0 2 2] rfl
    rwa [show vfl [(a, b), (c, d)] = true by simp [vfl, h1, h2]] at this
  have b1 : Bd 60 (mkRat a b.toNat) := by
    have hh := vfr_b h1
    have := low_bd (k := 60) (b := decide (a < 0)) (n := a.natAbs) (d := b.toNat) (by omega) (Nat.lt_of_le_of_lt (show a.natAbs ≤ 1000000000000000000 by omega) (by decide)) (Nat.lt_of_le_of_lt (show b.toNat ≤ 1000000000000000000 by omega) (by decide))
    rwa [sg_int] at this
  have b2 : Bd 60 (mkRat c d.toNat) := by
    have hh := vfr_b h2
    have := low_bd (k := 60) (b := decide (c < 0)) (n := c.natAbs) (d := d.toNat) (by omega) (Nat.lt_of_le_of_lt (show c.natAbs ≤ 1000000000000000000 by omega) (by decide)) (Nat.lt_of_le_of_lt (show d.toNat ≤ 1000000000000000000 by omega) (by decide))
    rwa [sg_int] at this
  exact FnV.mk fn11 rfl md11 ⟨_, k11 a b c d _ _ _ c1 (fun σ => (r26 h1).pure σ rfl rfl) (fun σ => (r26 h2).pure σ rfl rfl) (fun σ => r27 b1 b2 (by decide) σ [RT _, RT _] rfl)⟩ (fun _ => rfl) rfl

end Go.Proofs.YtjecbjnckbihoaaDoor
