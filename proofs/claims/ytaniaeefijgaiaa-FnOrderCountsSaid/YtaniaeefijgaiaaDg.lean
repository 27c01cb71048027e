/- Contracts and law: ranks of orders. Nothing is claimed here; no condition. -/
import Derived.Test.YtaniaeefijgaiaaDf
import Derived.Test.YtaniaeefijgaiaaDb
namespace Go.Proofs.Ytaniaeefijgaiaa
open Go Go.Abs
set_option linter.unusedSimpArgs false
set_option linter.unusedVariables false
/-! ### Ranks: plain law -/
def lessC (l : List Int) (x : Int) : Nat → Nat → Nat
  | 0, _ => 0
  | m + 1, k => (if at0 l k < x then 1 else 0) + lessC l x m (k + 1)
def rankG (l : List Int) : Nat → Nat → Nat
  | 0, _ => 0
  | m + 1, i => lessC l (at0 l i) m (i + 1) * fac m + rankG l m (i + 1)
theorem lessC_le (l : List Int) (x : Int) : ∀ (m k : Nat), lessC l x m k ≤ m
  | 0, _ => Nat.le_refl _
  | m + 1, k => by rw [lessC]; have := lessC_le l x m (k + 1); split <;> omega
theorem rankG_lt (l : List Int) : ∀ (m i : Nat), rankG l m i < fac m
  | 0, _ => by simp [rankG, fac]
  | m + 1, i => by
    rw [rankG, fac, Nat.add_mul, Nat.one_mul]
    have h1 := Nat.mul_le_mul_right (fac m) (lessC_le l (at0 l i) m (i + 1))
    have h2 := rankG_lt l m (i + 1)
    omega
theorem at0_drop (l : List Int) (a j : Nat) : at0 (l.drop a) j = at0 l (a + j) := by simp [at0, List.getD_eq_getElem?_getD]
theorem fac12 {m : Nat} (h : m ≤ 12) : fac m ≤ 479001600 := fac_le h

noncomputable def b81 : Code := Try.f81.body.getD .skip
noncomputable def B81_0 : Code := (bodyC (bodyC (sndC (fstC (sndC (sndC b81))))))
noncomputable def K81_0 : List It := .lp B81_0 :: .blk 0 :: .code (sndC (sndC (sndC b81))) :: []
theorem xl81_0 {fi : FI} {env : Env} {σ : St} : exI TT fi K81_0 env σ = exI TT fi (.code B81_0 :: K81_0) env σ := by unfold K81_0; exact xI_lp
noncomputable def R81_0_0 : List It := .code (sndC (sndC (sndC b81))) :: []
theorem eK81_0_0 : exitA 0 K81_0 = some R81_0_0 := rfl
noncomputable def B81_1 : Code := (bodyC (bodyC (sndC (sndC (bodyC (fstC (sndC (sndC (bodyC (bodyC (sndC (fstC (sndC (sndC b81))))))))))))))
noncomputable def K81_1 : List It := .lp B81_1 :: .blk 2 :: .blk 1 :: .code (sndC (sndC (sndC (bodyC (bodyC (sndC (fstC (sndC (sndC b81))))))))) :: K81_0
theorem xl81_1 {fi : FI} {env : Env} {σ : St} : exI TT fi K81_1 env σ = exI TT fi (.code B81_1 :: K81_1) env σ := by unfold K81_1; exact xI_lp
noncomputable def R81_1_2 : List It := .blk 1 :: .code (sndC (sndC (sndC (bodyC (bodyC (sndC (fstC (sndC (sndC b81))))))))) :: K81_0
theorem eK81_1_2 : exitA 2 K81_1 = some R81_1_2 := rfl
noncomputable def R81_1_1 : List It := .code (sndC (sndC (sndC (bodyC (bodyC (sndC (fstC (sndC (sndC b81))))))))) :: K81_0
theorem eK81_1_1 : exitA 1 K81_1 = some R81_1_1 := rfl
theorem eK81_1_0 : exitA 0 K81_1 = some R81_0_0 := rfl
set_option maxHeartbeats 1000000 in
theorem d81 (l : List Int) (len : Nat) (hlen : len = l.length) (hs : len ≤ 12) (i q : Nat) (hi : i < len) (hq : q = len - (i + 1)) (σ : St) : ∀ (m j r : Nat), j + m = q → r + lessC l (at0 l i) m (i + 1 + j) * fac q ≤ 4790016000 →
    exI TT (FI.of Try.f81 (TT.an 81)) K81_1 [(0, .lst len (ints l)), (3, .int .i64 r), (4, .int .i64 i), (5, .int .i64 (at0 l i)), (8, .lst len (ints l)), (9, .int .i64 len), (10, .int .i64 i), (18, .lst q (ints (l.drop (i + 1)))), (19, .int .i64 q), (20, .int .i64 j)] σ = exI TT (FI.of Try.f81 (TT.an 81)) R81_1_2 [(0, .lst len (ints l)), (3, .int .i64 (r + lessC l (at0 l i) m (i + 1 + j) * fac q : Nat)), (4, .int .i64 i), (5, .int .i64 (at0 l i)), (8, .lst len (ints l)), (9, .int .i64 len), (10, .int .i64 i), (18, .lst q (ints (l.drop (i + 1)))), (19, .int .i64 q), (20, .int .i64 q), (21, .bool false)] σ := by
  intro m
  induction m with
  | zero =>
    intro j r hj hb
    obtain rfl : j = q := by omega
    rw [lessC, Nat.zero_mul, Nat.add_zero]
    rw [fi81, xl81_1]
    simp only [B81_1, b81, Try.f81, Option.getD, fstC, sndC, bodyC, thnC, elsC]
    simp (maxSteps := 1000000) (disch := omega) [xI_seq, xI_region, xI_ret, regA, regOps, runOps, opStep, wantedA, opA, evo, evos, calleeA, lk, nif_eq, putE, paramsE, valS, val2, keepE, restrict, finA, resA, binA, binInt, ofConst, ofConst1, loadA, TK.isAgg, asVar, unA, builtinA, lenOpA, lenA, indexAddrA, evPairs, storeA, AV.cellsOf, pairsOf, xI_nil, binBool, gcE, evOpt, runTr, pairsOk, pairOk, sameVal, AV.eqv, lastOf, lstAt, eqvs, boundA, indexA, regF, twoOf, prsOf, memI, runTrF, selF, runTr2, freshOp, scals, AV.scal, xI_block, xI_loopH, xI_condM, xI_exitM, xI_skip, xI_blk, exitA, List.getElem?_cons_zero, List.getElem?_cons_succ, List.getElem?_toArray, List.getElem?_nil, ileb_t, ileb_f, ieqb_t, ieqb_f, inB_t, wrapA_id, lp_read, ieqb_self, Nat.blt_eq, cond_true, cond_false, ty2, ty3, ty22, eK81_0_0, eK81_1_2, eK81_1_1, eK81_1_0]
  | succ m ih =>
    intro j r hj hb
    have e1 := fun σ => c74 q (by omega) σ
    have hfq := fac12 (m := q) (by omega)
    have rd := lp_read (σ := σ) (l := l.drop (i + 1)) (i := j) (by simp; omega)
    rw [at0_drop] at rd
    rw [lessC] at hb ⊢
    have hw : wrapA .i64 ((len : Int) - i - 1) = (q : Int) := by rw [wrapA_id (by omega) (by omega)]; omega
    by_cases hc : at0 l (i + 1 + j) < at0 l i
    · rw [if_pos hc] at hb ⊢
      have e2 : (1 + lessC l (at0 l i) m (i + 1 + j + 1)) * fac q = fac q + lessC l (at0 l i) m (i + 1 + j + 1) * fac q := by rw [Nat.add_mul, Nat.one_mul]
      rw [e2] at hb ⊢
      have h2 := ih (j + 1) (r + fac q) (by omega) (by rw [show i + 1 + (j + 1) = i + 1 + j + 1 by omega]; omega)
      rw [show i + 1 + (j + 1) = i + 1 + j + 1 by omega, show r + fac q + lessC l (at0 l i) m (i + 1 + j + 1) * fac q = r + (fac q + lessC l (at0 l i) m (i + 1 + j + 1) * fac q) by omega] at h2
      rw [← h2]
      generalize fac q = fq at *
      rw [fi81, xl81_1]
      simp only [B81_1, b81, Try.f81, Option.getD, fstC, sndC, bodyC, thnC, elsC]
      simp (maxSteps := 1000000) (disch := omega) [xI_seq, xI_region, xI_ret, regA, regOps, runOps, opStep, wantedA, opA, evo, evos, calleeA, lk, nif_eq, putE, paramsE, valS, val2, keepE, restrict, finA, resA, binA, binInt, ofConst, ofConst1, loadA, TK.isAgg, asVar, unA, builtinA, lenOpA, lenA, indexAddrA, evPairs, storeA, AV.cellsOf, pairsOf, xI_nil, binBool, gcE, evOpt, runTr, pairsOk, pairOk, sameVal, AV.eqv, lastOf, lstAt, eqvs, boundA, indexA, regF, twoOf, prsOf, memI, runTrF, selF, runTr2, freshOp, scals, AV.scal, xI_block, xI_loopH, xI_condM, xI_exitM, xI_skip, xI_blk, exitA, List.getElem?_cons_zero, List.getElem?_cons_succ, List.getElem?_toArray, List.getElem?_nil, ileb_t, ileb_f, ieqb_t, ieqb_f, inB_t, wrapA_id, lp_read, ieqb_self, Nat.blt_eq, cond_true, cond_false, ty2, ty3, ty22, eK81_0_0, eK81_1_2, eK81_1_1, eK81_1_0, e1, rd, hw]
    · rw [if_neg hc, Nat.zero_add] at hb ⊢
      have h2 := ih (j + 1) r (by omega) (by rw [show i + 1 + (j + 1) = i + 1 + j + 1 by omega]; exact hb)
      rw [show i + 1 + (j + 1) = i + 1 + j + 1 by omega] at h2
      rw [← h2]
      rw [fi81, xl81_1]
      simp only [B81_1, b81, Try.f81, Option.getD, fstC, sndC, bodyC, thnC, elsC]
      simp (maxSteps := 1000000) (disch := omega) [xI_seq, xI_region, xI_ret, regA, regOps, runOps, opStep, wantedA, opA, evo, evos, calleeA, lk, nif_eq, putE, paramsE, valS, val2, keepE, restrict, finA, resA, binA, binInt, ofConst, ofConst1, loadA, TK.isAgg, asVar, unA, builtinA, lenOpA, lenA, indexAddrA, evPairs, storeA, AV.cellsOf, pairsOf, xI_nil, binBool, gcE, evOpt, runTr, pairsOk, pairOk, sameVal, AV.eqv, lastOf, lstAt, eqvs, boundA, indexA, regF, twoOf, prsOf, memI, runTrF, selF, runTr2, freshOp, scals, AV.scal, xI_block, xI_loopH, xI_condM, xI_exitM, xI_skip, xI_blk, exitA, List.getElem?_cons_zero, List.getElem?_cons_succ, List.getElem?_toArray, List.getElem?_nil, ileb_t, ileb_f, ieqb_t, ieqb_f, inB_t, wrapA_id, lp_read, ieqb_self, Nat.blt_eq, cond_true, cond_false, ty2, ty3, ty22, eK81_0_0, eK81_1_2, eK81_1_1, eK81_1_0, e1, rd, hw]
theorem getCells_tail {l : List Int} {a n : Nat} (h : a + n = l.length) : getCells (ints l) a n = some (ints (l.drop a)) := by
  rw [getCells_part (by omega), List.take_of_length_le (by simp; omega)]
set_option maxHeartbeats 1000000 in
theorem l81 (l : List Int) (len : Nat) (hlen : len = l.length) (hs : len ≤ 12) (σ : St) : ∀ (m i r : Nat), i + m = len → r + rankG l m i ≤ 479001600 →
    exI TT (FI.of Try.f81 (TT.an 81)) K81_0 [(0, .lst len (ints l)), (3, .int .i64 r), (8, .lst len (ints l)), (9, .int .i64 len), (10, .int .i64 i)] σ = some (.int .i64 (r + rankG l m i : Nat), σ) := by
  intro m
  induction m with
  | zero =>
    intro i r hi hb
    obtain rfl : i = len := by omega
    rw [fi81]
    rw [xl81_0]
    simp only [B81_0, b81, Try.f81, Option.getD, fstC, sndC, bodyC, thnC, elsC]
    simp (maxSteps := 1000000) (disch := omega) [xI_seq, xI_region, xI_ret, regA, regOps, runOps, opStep, wantedA, opA, evo, evos, calleeA, lk, nif_eq, putE, paramsE, valS, val2, keepE, restrict, finA, resA, binA, binInt, ofConst, ofConst1, loadA, TK.isAgg, asVar, unA, builtinA, lenOpA, lenA, indexAddrA, evPairs, storeA, AV.cellsOf, pairsOf, xI_nil, binBool, gcE, evOpt, runTr, pairsOk, pairOk, sameVal, AV.eqv, lastOf, lstAt, eqvs, boundA, indexA, regF, twoOf, prsOf, memI, runTrF, selF, runTr2, freshOp, scals, AV.scal, xI_block, xI_loopH, xI_condM, xI_exitM, xI_skip, xI_blk, exitA, List.getElem?_cons_zero, List.getElem?_cons_succ, List.getElem?_toArray, List.getElem?_nil, ileb_t, ileb_f, ieqb_t, ieqb_f, inB_t, wrapA_id, lp_read, ieqb_self, Nat.blt_eq, cond_true, cond_false, ty2, ty3, ty22, eK81_0_0, eK81_1_2, eK81_1_1, eK81_1_0]
    simp only [R81_0_0, b81, Try.f81, Option.getD, fstC, sndC, bodyC, thnC, elsC]
    simp (maxSteps := 1000000) (disch := omega) [xI_seq, xI_region, xI_ret, regA, regOps, runOps, opStep, wantedA, opA, evo, evos, calleeA, lk, nif_eq, putE, paramsE, valS, val2, keepE, restrict, finA, resA, binA, binInt, ofConst, ofConst1, loadA, TK.isAgg, asVar, unA, builtinA, lenOpA, lenA, indexAddrA, evPairs, storeA, AV.cellsOf, pairsOf, xI_nil, binBool, gcE, evOpt, runTr, pairsOk, pairOk, sameVal, AV.eqv, lastOf, lstAt, eqvs, boundA, indexA, regF, twoOf, prsOf, memI, runTrF, selF, runTr2, freshOp, scals, AV.scal, xI_block, xI_loopH, xI_condM, xI_exitM, xI_skip, xI_blk, exitA, List.getElem?_cons_zero, List.getElem?_cons_succ, List.getElem?_toArray, List.getElem?_nil, ileb_t, ileb_f, ieqb_t, ieqb_f, inB_t, wrapA_id, lp_read, ieqb_self, Nat.blt_eq, cond_true, cond_false, ty2, ty3, ty22, eK81_0_0, eK81_1_2, eK81_1_1, eK81_1_0, rankG]
  | succ m ih =>
    intro i r hi hb
    rw [rankG] at hb ⊢
    have hq : m = len - (i + 1) := by omega
    have h1 := d81 l len hlen hs i m (by omega) hq σ m 0 r (by omega) (by simp only [Nat.add_zero]; omega)
    simp only [Nat.add_zero, Int.natCast_zero, show ((0 : Nat) : Int) = 0 from rfl] at h1
    have hg := getCells_tail (l := l) (a := i + 1) (n := m) (by omega)
    have hm : len - (i + 1) = m := hq.symm
    have hn : ((i : Int) + 1).toNat = i + 1 := by omega
    have hn2 : (i : Int) + 1 ≤ (len : Int) := by omega
    have hn3 : i + 1 ≤ len := by omega
    have hn4 : (0 : Int) ≤ (i : Int) + 1 := by omega
    have h2 := ih (i + 1) (r + lessC l (at0 l i) m (i + 1) * fac m) (by omega) (by omega)
    rw [show r + lessC l (at0 l i) m (i + 1) * fac m + rankG l m (i + 1) = r + (lessC l (at0 l i) m (i + 1) * fac m + rankG l m (i + 1)) by omega] at h2
    rw [← h2]
    generalize lessC l (at0 l i) m (i + 1) * fac m = z at *
    rw [fi81] at h1 ⊢
    rw [xl81_0]
    simp only [B81_0, b81, Try.f81, Option.getD, fstC, sndC, bodyC, thnC, elsC]
    simp (maxSteps := 1000000) (disch := omega) [xI_seq, xI_region, xI_ret, regA, regOps, runOps, opStep, wantedA, opA, evo, evos, calleeA, lk, nif_eq, putE, paramsE, valS, val2, keepE, restrict, finA, resA, binA, binInt, ofConst, ofConst1, loadA, TK.isAgg, asVar, unA, builtinA, lenOpA, lenA, indexAddrA, evPairs, storeA, AV.cellsOf, pairsOf, xI_nil, binBool, gcE, evOpt, runTr, pairsOk, pairOk, sameVal, AV.eqv, lastOf, lstAt, eqvs, boundA, indexA, regF, twoOf, prsOf, memI, runTrF, selF, runTr2, freshOp, scals, AV.scal, xI_block, xI_loopH, xI_condM, xI_exitM, xI_skip, xI_blk, exitA, List.getElem?_cons_zero, List.getElem?_cons_succ, List.getElem?_toArray, List.getElem?_nil, ileb_t, ileb_f, ieqb_t, ieqb_f, inB_t, wrapA_id, lp_read, ieqb_self, Nat.blt_eq, cond_true, cond_false, ty2, ty3, ty22, eK81_0_0, eK81_1_2, eK81_1_1, eK81_1_0, sliceA, hg, hm, hn, hn2, hn3, hn4]
    refine h1.trans ?_
    simp only [R81_1_2, b81, Try.f81, Option.getD, fstC, sndC, bodyC, thnC, elsC]
    simp (maxSteps := 1000000) (disch := omega) [xI_seq, xI_region, xI_ret, regA, regOps, runOps, opStep, wantedA, opA, evo, evos, calleeA, lk, nif_eq, putE, paramsE, valS, val2, keepE, restrict, finA, resA, binA, binInt, ofConst, ofConst1, loadA, TK.isAgg, asVar, unA, builtinA, lenOpA, lenA, indexAddrA, evPairs, storeA, AV.cellsOf, pairsOf, xI_nil, binBool, gcE, evOpt, runTr, pairsOk, pairOk, sameVal, AV.eqv, lastOf, lstAt, eqvs, boundA, indexA, regF, twoOf, prsOf, memI, runTrF, selF, runTr2, freshOp, scals, AV.scal, xI_block, xI_loopH, xI_condM, xI_exitM, xI_skip, xI_blk, exitA, List.getElem?_cons_zero, List.getElem?_cons_succ, List.getElem?_toArray, List.getElem?_nil, ileb_t, ileb_f, ieqb_t, ieqb_f, inB_t, wrapA_id, lp_read, ieqb_self, Nat.blt_eq, cond_true, cond_false, ty2, ty3, ty22, eK81_0_0, eK81_1_2, eK81_1_1, eK81_1_0]
theorem v81 (l : List Int) (len : Nat) (hlen : len = l.length) (hs : len ≤ 12) : FnV TT 81 [.lst len (ints l)] (.int .i64 (rankG l len 0 : Nat)) := by
  have hb := rankG_lt l len 0
  have hf := fac12 hs
  have h := l81 l len hlen hs ⟨[], 0⟩ len 0 0 (by omega) (by omega)
  rw [Nat.zero_add] at h
  refine FnV.mk fn81 rfl md81 ⟨⟨[], 0⟩, ?_⟩ (fun _ => rfl) rfl
  rw [← h, fi81]
  simp (maxSteps := 1000000) (disch := omega) [xI_seq, xI_region, xI_ret, regA, regOps, runOps, opStep, wantedA, opA, evo, evos, calleeA, lk, nif_eq, putE, paramsE, valS, val2, keepE, restrict, finA, resA, binA, binInt, ofConst, ofConst1, loadA, TK.isAgg, asVar, unA, builtinA, lenOpA, lenA, indexAddrA, evPairs, storeA, AV.cellsOf, pairsOf, xI_nil, binBool, gcE, evOpt, runTr, pairsOk, pairOk, sameVal, AV.eqv, lastOf, lstAt, eqvs, boundA, indexA, regF, twoOf, prsOf, memI, runTrF, selF, runTr2, freshOp, scals, AV.scal, xI_block, xI_loopH, xI_condM, xI_exitM, xI_skip, xI_blk, exitA, List.getElem?_cons_zero, List.getElem?_cons_succ, List.getElem?_toArray, List.getElem?_nil, ileb_t, ileb_f, ieqb_t, ieqb_f, inB_t, wrapA_id, lp_read, ieqb_self, Nat.blt_eq, cond_true, cond_false, ty2, ty3, ty22, eK81_0_0, eK81_1_2, eK81_1_1, eK81_1_0]
  rfl

noncomputable def b80 : Code := Try.f80.body.getD .skip
noncomputable def B80_0 : Code := (bodyC (bodyC (sndC (fstC (sndC (sndC (sndC b80)))))))
noncomputable def K80_0 : List It := .lp B80_0 :: .blk 0 :: .code (sndC (sndC (sndC (sndC b80)))) :: []
theorem xl80_0 {fi : FI} {env : Env} {σ : St} : exI TT fi K80_0 env σ = exI TT fi (.code B80_0 :: K80_0) env σ := by unfold K80_0; exact xI_lp
noncomputable def R80_0_0 : List It := .code (sndC (sndC (sndC (sndC b80)))) :: []
theorem eK80_0_0 : exitA 0 K80_0 = some R80_0_0 := rfl
noncomputable def B80_1 : Code := (bodyC (bodyC (sndC (fstC (sndC (bodyC (fstC (sndC (bodyC (bodyC (sndC (fstC (sndC (sndC (sndC b80)))))))))))))))
noncomputable def K80_1 : List It := .lp B80_1 :: .blk 2 :: .code (sndC (sndC (bodyC (fstC (sndC (bodyC (bodyC (sndC (fstC (sndC (sndC (sndC b80)))))))))))) :: .blk 1 :: .code (sndC (sndC (bodyC (bodyC (sndC (fstC (sndC (sndC (sndC b80))))))))) :: K80_0
theorem xl80_1 {fi : FI} {env : Env} {σ : St} : exI TT fi K80_1 env σ = exI TT fi (.code B80_1 :: K80_1) env σ := by unfold K80_1; exact xI_lp
noncomputable def R80_1_2 : List It := .code (sndC (sndC (bodyC (fstC (sndC (bodyC (bodyC (sndC (fstC (sndC (sndC (sndC b80)))))))))))) :: .blk 1 :: .code (sndC (sndC (bodyC (bodyC (sndC (fstC (sndC (sndC (sndC b80))))))))) :: K80_0
theorem eK80_1_2 : exitA 2 K80_1 = some R80_1_2 := rfl
noncomputable def R80_1_1 : List It := .code (sndC (sndC (bodyC (bodyC (sndC (fstC (sndC (sndC (sndC b80))))))))) :: K80_0
theorem eK80_1_1 : exitA 1 K80_1 = some R80_1_1 := rfl
theorem eK80_1_0 : exitA 0 K80_1 = some R80_0_0 := rfl
set_option maxHeartbeats 1000000 in
theorem d80 (l : List Int) (len : Nat) (hlen : len = l.length) (hs : len ≤ 12) (i r : Nat) (hi : i < len) (σ : St) : ∀ (m k c : Nat), k + m = len → c ≤ k →
    exI TT (FI.of Try.f80 (TT.an 80)) K80_1 [(0, .lst len (ints l)), (3, .int .i64 len), (4, .int .i64 r), (5, .int .i64 i), (6, .int .i64 c), (7, .int .i64 k)] σ = exI TT (FI.of Try.f80 (TT.an 80)) R80_1_2 [(0, .lst len (ints l)), (3, .int .i64 len), (4, .int .i64 r), (5, .int .i64 i), (6, .int .i64 (c + lessC l (at0 l i) m k : Nat)), (7, .int .i64 len), (19, .bool false)] σ := by
  intro m
  induction m with
  | zero =>
    intro k c hk hc
    obtain rfl : k = len := by omega
    rw [fi80, xl80_1]
    simp only [B80_1, b80, Try.f80, Option.getD, fstC, sndC, bodyC, thnC, elsC]
    simp (maxSteps := 1000000) (disch := omega) [xI_seq, xI_region, xI_ret, regA, regOps, runOps, opStep, wantedA, opA, evo, evos, calleeA, lk, nif_eq, putE, paramsE, valS, val2, keepE, restrict, finA, resA, binA, binInt, ofConst, ofConst1, loadA, TK.isAgg, asVar, unA, builtinA, lenOpA, lenA, indexAddrA, evPairs, storeA, AV.cellsOf, pairsOf, xI_nil, binBool, gcE, evOpt, runTr, pairsOk, pairOk, sameVal, AV.eqv, lastOf, lstAt, eqvs, boundA, indexA, regF, twoOf, prsOf, memI, runTrF, selF, runTr2, freshOp, scals, AV.scal, xI_block, xI_loopH, xI_condM, xI_exitM, xI_skip, xI_blk, exitA, List.getElem?_cons_zero, List.getElem?_cons_succ, List.getElem?_toArray, List.getElem?_nil, ileb_t, ileb_f, ieqb_t, ieqb_f, inB_t, wrapA_id, lp_read, ieqb_self, Nat.blt_eq, cond_true, cond_false, ty2, ty3, ty22, eK80_0_0, eK80_1_2, eK80_1_1, eK80_1_0, lessC]
  | succ m ih =>
    intro k c hk hc
    rw [lessC]
    by_cases hx : at0 l k < at0 l i
    · have h2 := ih (k + 1) (c + 1) (by omega) (by omega)
      rw [if_pos hx, ← Nat.add_assoc, ← h2]
      rw [fi80, xl80_1]
      simp only [B80_1, b80, Try.f80, Option.getD, fstC, sndC, bodyC, thnC, elsC]
      simp (maxSteps := 1000000) (disch := omega) [xI_seq, xI_region, xI_ret, regA, regOps, runOps, opStep, wantedA, opA, evo, evos, calleeA, lk, nif_eq, putE, paramsE, valS, val2, keepE, restrict, finA, resA, binA, binInt, ofConst, ofConst1, loadA, TK.isAgg, asVar, unA, builtinA, lenOpA, lenA, indexAddrA, evPairs, storeA, AV.cellsOf, pairsOf, xI_nil, binBool, gcE, evOpt, runTr, pairsOk, pairOk, sameVal, AV.eqv, lastOf, lstAt, eqvs, boundA, indexA, regF, twoOf, prsOf, memI, runTrF, selF, runTr2, freshOp, scals, AV.scal, xI_block, xI_loopH, xI_condM, xI_exitM, xI_skip, xI_blk, exitA, List.getElem?_cons_zero, List.getElem?_cons_succ, List.getElem?_toArray, List.getElem?_nil, ileb_t, ileb_f, ieqb_t, ieqb_f, inB_t, wrapA_id, lp_read, ieqb_self, Nat.blt_eq, cond_true, cond_false, ty2, ty3, ty22, eK80_0_0, eK80_1_2, eK80_1_1, eK80_1_0]
    · have h2 := ih (k + 1) c (by omega) (by omega)
      rw [if_neg hx, Nat.zero_add, ← h2]
      rw [fi80, xl80_1]
      simp only [B80_1, b80, Try.f80, Option.getD, fstC, sndC, bodyC, thnC, elsC]
      simp (maxSteps := 1000000) (disch := omega) [xI_seq, xI_region, xI_ret, regA, regOps, runOps, opStep, wantedA, opA, evo, evos, calleeA, lk, nif_eq, putE, paramsE, valS, val2, keepE, restrict, finA, resA, binA, binInt, ofConst, ofConst1, loadA, TK.isAgg, asVar, unA, builtinA, lenOpA, lenA, indexAddrA, evPairs, storeA, AV.cellsOf, pairsOf, xI_nil, binBool, gcE, evOpt, runTr, pairsOk, pairOk, sameVal, AV.eqv, lastOf, lstAt, eqvs, boundA, indexA, regF, twoOf, prsOf, memI, runTrF, selF, runTr2, freshOp, scals, AV.scal, xI_block, xI_loopH, xI_condM, xI_exitM, xI_skip, xI_blk, exitA, List.getElem?_cons_zero, List.getElem?_cons_succ, List.getElem?_toArray, List.getElem?_nil, ileb_t, ileb_f, ieqb_t, ieqb_f, inB_t, wrapA_id, lp_read, ieqb_self, Nat.blt_eq, cond_true, cond_false, ty2, ty3, ty22, eK80_0_0, eK80_1_2, eK80_1_1, eK80_1_0]
set_option maxHeartbeats 1000000 in
theorem l80 (l : List Int) (len : Nat) (hlen : len = l.length) (hs : len ≤ 12) (σ : St) : ∀ (m i r : Nat), i + m = len → r + rankG l m i ≤ 479001600 →
    exI TT (FI.of Try.f80 (TT.an 80)) K80_0 [(0, .lst len (ints l)), (3, .int .i64 len), (4, .int .i64 r), (5, .int .i64 i)] σ = some (.int .i64 (r + rankG l m i : Nat), σ) := by
  intro m
  induction m with
  | zero =>
    intro i r hi hb
    obtain rfl : i = len := by omega
    rw [fi80]
    rw [xl80_0]
    simp only [B80_0, b80, Try.f80, Option.getD, fstC, sndC, bodyC, thnC, elsC]
    simp (maxSteps := 1000000) (disch := omega) [xI_seq, xI_region, xI_ret, regA, regOps, runOps, opStep, wantedA, opA, evo, evos, calleeA, lk, nif_eq, putE, paramsE, valS, val2, keepE, restrict, finA, resA, binA, binInt, ofConst, ofConst1, loadA, TK.isAgg, asVar, unA, builtinA, lenOpA, lenA, indexAddrA, evPairs, storeA, AV.cellsOf, pairsOf, xI_nil, binBool, gcE, evOpt, runTr, pairsOk, pairOk, sameVal, AV.eqv, lastOf, lstAt, eqvs, boundA, indexA, regF, twoOf, prsOf, memI, runTrF, selF, runTr2, freshOp, scals, AV.scal, xI_block, xI_loopH, xI_condM, xI_exitM, xI_skip, xI_blk, exitA, List.getElem?_cons_zero, List.getElem?_cons_succ, List.getElem?_toArray, List.getElem?_nil, ileb_t, ileb_f, ieqb_t, ieqb_f, inB_t, wrapA_id, lp_read, ieqb_self, Nat.blt_eq, cond_true, cond_false, ty2, ty3, ty22, eK80_0_0, eK80_1_2, eK80_1_1, eK80_1_0]
    simp only [R80_0_0, b80, Try.f80, Option.getD, fstC, sndC, bodyC, thnC, elsC]
    simp (maxSteps := 1000000) (disch := omega) [xI_seq, xI_region, xI_ret, regA, regOps, runOps, opStep, wantedA, opA, evo, evos, calleeA, lk, nif_eq, putE, paramsE, valS, val2, keepE, restrict, finA, resA, binA, binInt, ofConst, ofConst1, loadA, TK.isAgg, asVar, unA, builtinA, lenOpA, lenA, indexAddrA, evPairs, storeA, AV.cellsOf, pairsOf, xI_nil, binBool, gcE, evOpt, runTr, pairsOk, pairOk, sameVal, AV.eqv, lastOf, lstAt, eqvs, boundA, indexA, regF, twoOf, prsOf, memI, runTrF, selF, runTr2, freshOp, scals, AV.scal, xI_block, xI_loopH, xI_condM, xI_exitM, xI_skip, xI_blk, exitA, List.getElem?_cons_zero, List.getElem?_cons_succ, List.getElem?_toArray, List.getElem?_nil, ileb_t, ileb_f, ieqb_t, ieqb_f, inB_t, wrapA_id, lp_read, ieqb_self, Nat.blt_eq, cond_true, cond_false, ty2, ty3, ty22, eK80_0_0, eK80_1_2, eK80_1_1, eK80_1_0, rankG]
  | succ m ih =>
    intro i r hi hb
    rw [rankG] at hb ⊢
    have h1 := d80 l len hlen hs i r (by omega) σ m (i + 1) 0 (by omega) (by omega)
    rw [Nat.zero_add] at h1
    simp only [Int.natCast_zero, show ((0 : Nat) : Int) = 0 from rfl] at h1
    have h2 := ih (i + 1) (r + lessC l (at0 l i) m (i + 1) * fac m) (by omega) (by omega)
    rw [show r + lessC l (at0 l i) m (i + 1) * fac m + rankG l m (i + 1) = r + (lessC l (at0 l i) m (i + 1) * fac m + rankG l m (i + 1)) by omega] at h2
    have e1 := fun σ => c72 m (by omega) σ
    have hw : wrapA .i64 ((len : Int) - 1 - i) = (m : Int) := by rw [wrapA_id (by omega) (by omega)]; omega
    have hz : wrapA .i64 ((lessC l (at0 l i) m (i + 1) : Int) * (fac m : Int)) = ((lessC l (at0 l i) m (i + 1) * fac m : Nat) : Int) := by rw [← Int.natCast_mul, wrapA_id (by omega) (by omega)]
    rw [← h2]
    generalize lessC l (at0 l i) m (i + 1) * fac m = z at *
    generalize lessC l (at0 l i) m (i + 1) = y at *
    generalize fac m = x at *
    rw [fi80] at h1 ⊢
    rw [xl80_0]
    simp only [B80_0, b80, Try.f80, Option.getD, fstC, sndC, bodyC, thnC, elsC]
    simp (maxSteps := 1000000) (disch := omega) [xI_seq, xI_region, xI_ret, regA, regOps, runOps, opStep, wantedA, opA, evo, evos, calleeA, lk, nif_eq, putE, paramsE, valS, val2, keepE, restrict, finA, resA, binA, binInt, ofConst, ofConst1, loadA, TK.isAgg, asVar, unA, builtinA, lenOpA, lenA, indexAddrA, evPairs, storeA, AV.cellsOf, pairsOf, xI_nil, binBool, gcE, evOpt, runTr, pairsOk, pairOk, sameVal, AV.eqv, lastOf, lstAt, eqvs, boundA, indexA, regF, twoOf, prsOf, memI, runTrF, selF, runTr2, freshOp, scals, AV.scal, xI_block, xI_loopH, xI_condM, xI_exitM, xI_skip, xI_blk, exitA, List.getElem?_cons_zero, List.getElem?_cons_succ, List.getElem?_toArray, List.getElem?_nil, ileb_t, ileb_f, ieqb_t, ieqb_f, inB_t, wrapA_id, lp_read, ieqb_self, Nat.blt_eq, cond_true, cond_false, ty2, ty3, ty22, eK80_0_0, eK80_1_2, eK80_1_1, eK80_1_0]
    refine h1.trans ?_
    simp only [R80_1_2, b80, Try.f80, Option.getD, fstC, sndC, bodyC, thnC, elsC]
    simp (maxSteps := 1000000) (disch := omega) [xI_seq, xI_region, xI_ret, regA, regOps, runOps, opStep, wantedA, opA, evo, evos, calleeA, lk, nif_eq, putE, paramsE, valS, val2, keepE, restrict, finA, resA, binA, binInt, ofConst, ofConst1, loadA, TK.isAgg, asVar, unA, builtinA, lenOpA, lenA, indexAddrA, evPairs, storeA, AV.cellsOf, pairsOf, xI_nil, binBool, gcE, evOpt, runTr, pairsOk, pairOk, sameVal, AV.eqv, lastOf, lstAt, eqvs, boundA, indexA, regF, twoOf, prsOf, memI, runTrF, selF, runTr2, freshOp, scals, AV.scal, xI_block, xI_loopH, xI_condM, xI_exitM, xI_skip, xI_blk, exitA, List.getElem?_cons_zero, List.getElem?_cons_succ, List.getElem?_toArray, List.getElem?_nil, ileb_t, ileb_f, ieqb_t, ieqb_f, inB_t, wrapA_id, lp_read, ieqb_self, Nat.blt_eq, cond_true, cond_false, ty2, ty3, ty22, eK80_0_0, eK80_1_2, eK80_1_1, eK80_1_0, e1, hw, hz]
theorem v80 (l : List Int) (len : Nat) (hlen : len = l.length) (hs : len ≤ 12) : FnV TT 80 [.lst len (ints l)] (.int .i64 (rankG l len 0 : Nat)) := by
  have hb := rankG_lt l len 0
  have hf := fac12 hs
  have h := l80 l len hlen hs ⟨[], 0⟩ len 0 0 (by omega) (by omega)
  rw [Nat.zero_add] at h
  refine FnV.mk fn80 rfl md80 ⟨⟨[], 0⟩, ?_⟩ (fun _ => rfl) rfl
  rw [← h, fi80]
  simp (maxSteps := 1000000) (disch := omega) [xI_seq, xI_region, xI_ret, regA, regOps, runOps, opStep, wantedA, opA, evo, evos, calleeA, lk, nif_eq, putE, paramsE, valS, val2, keepE, restrict, finA, resA, binA, binInt, ofConst, ofConst1, loadA, TK.isAgg, asVar, unA, builtinA, lenOpA, lenA, indexAddrA, evPairs, storeA, AV.cellsOf, pairsOf, xI_nil, binBool, gcE, evOpt, runTr, pairsOk, pairOk, sameVal, AV.eqv, lastOf, lstAt, eqvs, boundA, indexA, regF, twoOf, prsOf, memI, runTrF, selF, runTr2, freshOp, scals, AV.scal, xI_block, xI_loopH, xI_condM, xI_exitM, xI_skip, xI_blk, exitA, List.getElem?_cons_zero, List.getElem?_cons_succ, List.getElem?_toArray, List.getElem?_nil, ileb_t, ileb_f, ieqb_t, ieqb_f, inB_t, wrapA_id, lp_read, ieqb_self, Nat.blt_eq, cond_true, cond_false, ty2, ty3, ty22, eK80_0_0, eK80_1_2, eK80_1_1, eK80_1_0]
  rfl

theorem v46 (l : List Int) (len : Nat) (hlen : len = l.length) (hs : len < 3000000) : FnV TT 46 [.lst len (ints l)] (if isO l = true then .tup [.int .i64 (rankG l len 0 : Nat), .bool true] else .tup [.int .i64 0, .bool false]) := by
  have e1 := fun σ => v87 l len hlen hs σ [.lst len (ints l)] rfl
  cases ho : isO l with
  | false =>
    rw [ho] at e1
    refine FnV.mk fn46 rfl md46 ⟨⟨[], 0⟩, ?_⟩ (fun _ => rfl) rfl
    rw [fi46]
    simp (maxSteps := 1000000) (disch := omega) [xI_seq, xI_region, xI_ret, regA, regOps, runOps, opStep, wantedA, opA, evo, evos, calleeA, lk, nif_eq, putE, paramsE, valS, val2, keepE, restrict, finA, resA, binA, binInt, ofConst, ofConst1, loadA, TK.isAgg, asVar, unA, builtinA, lenOpA, lenA, indexAddrA, evPairs, storeA, AV.cellsOf, pairsOf, xI_nil, binBool, gcE, evOpt, runTr, pairsOk, pairOk, sameVal, AV.eqv, lastOf, lstAt, eqvs, boundA, indexA, regF, twoOf, prsOf, memI, runTrF, selF, runTr2, freshOp, scals, AV.scal, xI_block, xI_loopH, xI_condM, xI_exitM, xI_skip, xI_blk, exitA, List.getElem?_cons_zero, List.getElem?_cons_succ, List.getElem?_toArray, List.getElem?_nil, ileb_t, ileb_f, ieqb_t, ieqb_f, inB_t, wrapA_id, lp_read, ieqb_self, Nat.blt_eq, cond_true, cond_false, ty4, e1]
  | true =>
    rw [ho] at e1
    have hl : 1 ≤ len ∧ len ≤ 12 := by
      unfold isO at ho
      simp only [Bool.and_eq_true] at ho
      have := inR_iff.1 ho.1; omega
    have e2 := fun σ => v80 l len hlen hl.2 σ [.lst len (ints l)] rfl
    refine FnV.mk fn46 rfl md46 ⟨⟨[], 0⟩, ?_⟩ (fun _ => rfl) rfl
    rw [fi46]
    simp (maxSteps := 1000000) (disch := omega) [xI_seq, xI_region, xI_ret, regA, regOps, runOps, opStep, wantedA, opA, evo, evos, calleeA, lk, nif_eq, putE, paramsE, valS, val2, keepE, restrict, finA, resA, binA, binInt, ofConst, ofConst1, loadA, TK.isAgg, asVar, unA, builtinA, lenOpA, lenA, indexAddrA, evPairs, storeA, AV.cellsOf, pairsOf, xI_nil, binBool, gcE, evOpt, runTr, pairsOk, pairOk, sameVal, AV.eqv, lastOf, lstAt, eqvs, boundA, indexA, regF, twoOf, prsOf, memI, runTrF, selF, runTr2, freshOp, scals, AV.scal, xI_block, xI_loopH, xI_condM, xI_exitM, xI_skip, xI_blk, exitA, List.getElem?_cons_zero, List.getElem?_cons_succ, List.getElem?_toArray, List.getElem?_nil, ileb_t, ileb_f, ieqb_t, ieqb_f, inB_t, wrapA_id, lp_read, ieqb_self, Nat.blt_eq, cond_true, cond_false, ty4, e1, e2]

theorem v47 (l : List Int) (len : Nat) (hlen : len = l.length) (hs : len < 3000000) : FnV TT 47 [.lst len (ints l)] (if isO l = true then .tup [.int .i64 (rankG l len 0 : Nat), .bool true] else .tup [.int .i64 0, .bool false]) := by
  have e1 := fun σ => v41 l len hlen hs σ [.lst len (ints l)] rfl
  cases ho : isO l with
  | false =>
    rw [ho] at e1
    refine FnV.mk fn47 rfl md47 ⟨⟨[], 0⟩, ?_⟩ (fun _ => rfl) rfl
    rw [fi47]
    simp (maxSteps := 1000000) (disch := omega) [xI_seq, xI_region, xI_ret, regA, regOps, runOps, opStep, wantedA, opA, evo, evos, calleeA, lk, nif_eq, putE, paramsE, valS, val2, keepE, restrict, finA, resA, binA, binInt, ofConst, ofConst1, loadA, TK.isAgg, asVar, unA, builtinA, lenOpA, lenA, indexAddrA, evPairs, storeA, AV.cellsOf, pairsOf, xI_nil, binBool, gcE, evOpt, runTr, pairsOk, pairOk, sameVal, AV.eqv, lastOf, lstAt, eqvs, boundA, indexA, regF, twoOf, prsOf, memI, runTrF, selF, runTr2, freshOp, scals, AV.scal, xI_block, xI_loopH, xI_condM, xI_exitM, xI_skip, xI_blk, exitA, List.getElem?_cons_zero, List.getElem?_cons_succ, List.getElem?_toArray, List.getElem?_nil, ileb_t, ileb_f, ieqb_t, ieqb_f, inB_t, wrapA_id, lp_read, ieqb_self, Nat.blt_eq, cond_true, cond_false, ty4, e1]
  | true =>
    rw [ho] at e1
    have hl : 1 ≤ len ∧ len ≤ 12 := by
      unfold isO at ho
      simp only [Bool.and_eq_true] at ho
      have := inR_iff.1 ho.1; omega
    have e2 := fun σ => v81 l len hlen hl.2 σ [.lst len (ints l)] rfl
    refine FnV.mk fn47 rfl md47 ⟨⟨[], 0⟩, ?_⟩ (fun _ => rfl) rfl
    rw [fi47]
    simp (maxSteps := 1000000) (disch := omega) [xI_seq, xI_region, xI_ret, regA, regOps, runOps, opStep, wantedA, opA, evo, evos, calleeA, lk, nif_eq, putE, paramsE, valS, val2, keepE, restrict, finA, resA, binA, binInt, ofConst, ofConst1, loadA, TK.isAgg, asVar, unA, builtinA, lenOpA, lenA, indexAddrA, evPairs, storeA, AV.cellsOf, pairsOf, xI_nil, binBool, gcE, evOpt, runTr, pairsOk, pairOk, sameVal, AV.eqv, lastOf, lstAt, eqvs, boundA, indexA, regF, twoOf, prsOf, memI, runTrF, selF, runTr2, freshOp, scals, AV.scal, xI_block, xI_loopH, xI_condM, xI_exitM, xI_skip, xI_blk, exitA, List.getElem?_cons_zero, List.getElem?_cons_succ, List.getElem?_toArray, List.getElem?_nil, ileb_t, ileb_f, ieqb_t, ieqb_f, inB_t, wrapA_id, lp_read, ieqb_self, Nat.blt_eq, cond_true, cond_false, ty4, e1, e2]

set_option maxHeartbeats 2000000 in
theorem w14  (l : List Int) : FnV TT 14 [.lst l.length (ints l)] (.bool true) := by
  refine FnV.mk fn14 rfl md14 ?_ (fun _ => rfl) rfl
  rw [fi14]
  by_cases hbig : 1048576 < l.length
  · refine ⟨⟨[], 0⟩, ?_⟩
    have hbig' : ¬ (l.length : Int) ≤ 1048576 := by omega
    simp [xI_seq, xI_region, xI_ret, regA, regOps, runOps, opStep, wantedA, opA, evo, evos, calleeA, lk, nif_eq, putE, paramsE, valS, val2, keepE, restrict, finA, resA, binA, binInt, ofConst, ofConst1, loadA, TK.isAgg, asVar, unA, builtinA, lenOpA, lenA, ileb_cast, ileb_eq, ieqb_dec, indexAddrA, inB_dec, evPairs, storeA, AV.cellsOf, pairsOf, xI_nil, binBool, gcE, evOpt, xI_block, xI_loopH, xI_condM, xI_exitM, xI_skip, xI_blk, exitA, ty2, ty3, ty4, ty22, hbig, hbig']
  · have hl : l.length ≤ 1048576 := by omega
    have hbg : (l.length : Int) ≤ 1048576 := by omega
    have hS := v46 l l.length rfl (by omega)
    have hI := v47 l l.length rfl (by omega)
    obtain ⟨b1, σ1, c1, r1, o1, e1⟩ := FnS.row (s21 l l.length rfl (by omega)) (σ := (⟨[], 0⟩ : St)) (args := [.lst l.length (ints l)]) rfl
    have c2 := hS σ1 [.sl b1 0 l.length l.length] (mapO_cons (r1.frz rfl (Nat.le_refl _)) rfl)
    obtain ⟨b3, σ3, c3, r3, o3, e3⟩ := FnS.row (s21 l l.length rfl (by omega)) (σ := σ1) (args := [.lst l.length (ints l)]) rfl
    have c4 := hI σ3 [.sl b3 0 l.length l.length] (mapO_cons (r3.frz rfl (Nat.le_refl _)) rfl)
    obtain ⟨b5, σ5, c5, r5, o5, e5⟩ := FnS.row (s21 l l.length rfl (by omega)) (σ := σ3) (args := [.lst l.length (ints l)]) rfl
    replace r3 := r3.old o5
    have c6 := v23 l l l.length l.length rfl rfl (by omega) σ5 [.sl b3 0 l.length l.length, .sl b5 0 l.length l.length] (mapO_cons (r3.frz rfl (Nat.le_refl _)) (mapO_cons (r5.frz rfl (Nat.le_refl _)) rfl))
    simp only [decide_true] at c6
    clear hS hI
    refine ⟨σ5, ?_⟩
    by_cases ho : isO l = true
    · rw [if_pos ho] at c2 c4
      generalize rankG l l.length 0 = z at *
      simp [xI_seq, xI_region, xI_ret, regA, regOps, runOps, opStep, wantedA, opA, evo, evos, calleeA, lk, nif_eq, putE, paramsE, valS, val2, keepE, restrict, finA, resA, binA, binInt, ofConst, ofConst1, loadA, TK.isAgg, asVar, unA, builtinA, lenOpA, lenA, ileb_cast, ileb_eq, ieqb_dec, indexAddrA, inB_dec, evPairs, storeA, AV.cellsOf, pairsOf, xI_nil, binBool, gcE, evOpt, xI_block, xI_loopH, xI_condM, xI_exitM, xI_skip, xI_blk, exitA, ty2, ty3, ty4, ty22, hbg, c1, c2, c3, c4, c5, c6]
    · rw [if_neg ho] at c2 c4
      simp [xI_seq, xI_region, xI_ret, regA, regOps, runOps, opStep, wantedA, opA, evo, evos, calleeA, lk, nif_eq, putE, paramsE, valS, val2, keepE, restrict, finA, resA, binA, binInt, ofConst, ofConst1, loadA, TK.isAgg, asVar, unA, builtinA, lenOpA, lenA, ileb_cast, ileb_eq, ieqb_dec, indexAddrA, inB_dec, evPairs, storeA, AV.cellsOf, pairsOf, xI_nil, binBool, gcE, evOpt, xI_block, xI_loopH, xI_condM, xI_exitM, xI_skip, xI_blk, exitA, ty2, ty3, ty4, ty22, hbg, c1, c2, c3, c4, c5, c6]

end Go.Proofs.Ytaniaeefijgaiaa
