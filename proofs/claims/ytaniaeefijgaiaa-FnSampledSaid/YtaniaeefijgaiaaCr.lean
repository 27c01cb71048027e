/- Contracts: increasing lists, ranks of sets, sets of ranks. Nothing is claimed here; no condition. -/
import Derived.Test.YtaniaeefijgaiaaCo
namespace Go.Proofs.Ytaniaeefijgaiaa
open Go Go.Abs
set_option linter.unusedSimpArgs false
set_option linter.unusedVariables false
def incr : List Int → Bool
  | a :: b :: r => decide (a < b) && incr (b :: r)
  | _ => true

noncomputable def b86 : Code := Try.f86.body.getD .skip
noncomputable def B86_0 : Code := (bodyC (bodyC (sndC (fstC (sndC b86)))))
noncomputable def K86_0 : List It := .lp B86_0 :: .blk 0 :: .code (sndC (sndC b86)) :: []
theorem xl86_0 {fi : FI} {env : Env} {σ : St} : exI TT fi K86_0 env σ = exI TT fi (.code B86_0 :: K86_0) env σ := by unfold K86_0; exact xI_lp
noncomputable def R86_0_0 : List It := .code (sndC (sndC b86)) :: []
theorem eK86_0_0 : exitA 0 K86_0 = some R86_0_0 := rfl
theorem l86 (l : List Int) (len : Nat) (hlen : len = l.length) (hs : len < 3000000) (σ : St) : ∀ (suf pre : List Int) (a : Int), l = pre ++ a :: suf →
    exI TT (FI.of Try.f86 (TT.an 86)) K86_0 [(0, .lst len (ints l)), (3, .int .i64 (pre.length + 1 : Nat))] σ = some (.bool (incr (a :: suf)), σ) := by
  intro suf
  induction suf with
  | nil =>
    intro pre a hl
    have hll : len = pre.length + 1 := by rw [hlen, hl]; simp
    subst hll
    rw [fi86]
    rw [xl86_0]
    simp only [B86_0, b86, Try.f86, Option.getD, fstC, sndC, bodyC, thnC, elsC]
    simp [xI_seq, xI_region, xI_ret, regA, regOps, runOps, opStep, wantedA, opA, evo, evos, calleeA, lk, nif_eq, putE, paramsE, valS, val2, keepE, restrict, finA, resA, binA, binInt, ofConst, ofConst1, loadA, TK.isAgg, asVar, unA, builtinA, lenOpA, lenA, ileb_cast, ileb_eq, ieqb_dec, indexAddrA, inB_dec, evPairs, storeA, AV.cellsOf, pairsOf, xI_nil, binBool, gcE, evOpt, xI_block, xI_loopH, xI_condM, xI_exitM, xI_skip, xI_blk, exitA, ty2, ty3, ty22, eK86_0_0]
    simp only [R86_0_0, b86, Try.f86, Option.getD, fstC, sndC, bodyC, thnC, elsC]
    simp [xI_seq, xI_region, xI_ret, regA, regOps, runOps, opStep, wantedA, opA, evo, evos, calleeA, lk, nif_eq, putE, paramsE, valS, val2, keepE, restrict, finA, resA, binA, binInt, ofConst, ofConst1, loadA, TK.isAgg, asVar, unA, builtinA, lenOpA, lenA, ileb_cast, ileb_eq, ieqb_dec, indexAddrA, inB_dec, evPairs, storeA, AV.cellsOf, pairsOf, xI_nil, binBool, gcE, evOpt, xI_block, xI_loopH, xI_condM, xI_exitM, xI_skip, xI_blk, exitA, ty2, ty3, ty22, eK86_0_0, incr]
  | cons b suf ih =>
    intro pre a hl
    have hll : len = pre.length + (suf.length + 2) := by rw [hlen, hl]; simp
    have hg1 : l[pre.length]? = some a := by simp [hl]
    have hg2 : l[pre.length + 1]? = some b := by simp [hl]
    have h1 := ih (pre ++ [a]) b (by simp [hl])
    simp only [List.length_append, List.length_singleton] at h1
    obtain ⟨q, hq⟩ : ∃ q, q = pre.length := ⟨_, rfl⟩
    rw [← hq] at hg1 hg2 h1 hll ⊢
    have hlt : ¬ len ≤ q + 1 := by omega
    have hlt2 : (q : Int) + 1 < (len : Int) := by omega
    have hlt3 : (q : Int) < (len : Int) := by omega
    have hlt4 : ¬ (len : Int) ≤ (q : Int) + 1 := by omega
    have hlt5 : q < len := by omega
    have hz : (0 : Int) ≤ (q : Int) + 1 := by omega
    have htn : ((q : Int) + 1).toNat = q + 1 := by omega
    have hw1 : wrapA .i64 (q : Int) = (q : Int) := wrapA_id (by omega) (by omega)
    have hw3 : wrapA .i64 ((q : Int) + 1 + 1) = (q : Int) + 1 + 1 := wrapA_id (by omega) (by omega)
    rw [show ((q + 1 : Nat) : Int) = (q : Int) + 1 by omega]
    rw [show ((q + 1 + 1 : Nat) : Int) = (q : Int) + 1 + 1 by omega] at h1
    by_cases hab : a < b
    · have hab2 : ¬ b ≤ a := by omega
      have hi : incr (a :: b :: suf) = incr (b :: suf) := by simp [incr, hab]
      rw [hi]
      rw [fi86] at h1 ⊢
      rw [xl86_0]
      simp only [B86_0, b86, Try.f86, Option.getD, fstC, sndC, bodyC, thnC, elsC]
      simp [xI_seq, xI_region, xI_ret, regA, regOps, runOps, opStep, wantedA, opA, evo, evos, calleeA, lk, nif_eq, putE, paramsE, valS, val2, keepE, restrict, finA, resA, binA, binInt, ofConst, ofConst1, loadA, TK.isAgg, asVar, unA, builtinA, lenOpA, lenA, ileb_cast, ileb_eq, ieqb_dec, indexAddrA, inB_dec, evPairs, storeA, AV.cellsOf, pairsOf, xI_nil, binBool, gcE, evOpt, xI_block, xI_loopH, xI_condM, xI_exitM, xI_skip, xI_blk, exitA, ty2, ty3, ty22, eK86_0_0, hw1, hw3, hlt, hlt2, hlt3, hlt4, hlt5, hz, htn, lst_read hg1, lst_read hg2, hab, hab2]
      exact h1
    · have hab2 : b ≤ a := by omega
      have hi : incr (a :: b :: suf) = false := by simp [incr, hab]
      rw [hi]
      rw [fi86]
      rw [xl86_0]
      simp only [B86_0, b86, Try.f86, Option.getD, fstC, sndC, bodyC, thnC, elsC]
      simp [xI_seq, xI_region, xI_ret, regA, regOps, runOps, opStep, wantedA, opA, evo, evos, calleeA, lk, nif_eq, putE, paramsE, valS, val2, keepE, restrict, finA, resA, binA, binInt, ofConst, ofConst1, loadA, TK.isAgg, asVar, unA, builtinA, lenOpA, lenA, ileb_cast, ileb_eq, ieqb_dec, indexAddrA, inB_dec, evPairs, storeA, AV.cellsOf, pairsOf, xI_nil, binBool, gcE, evOpt, xI_block, xI_loopH, xI_condM, xI_exitM, xI_skip, xI_blk, exitA, ty2, ty3, ty22, eK86_0_0, hw1, hw3, hlt, hlt2, hlt3, hlt4, hlt5, hz, htn, lst_read hg1, lst_read hg2, hab2]
theorem v86 (l : List Int) (len : Nat) (hlen : len = l.length) (hs : len < 3000000) : FnV TT 86 [.lst len (ints l)] (.bool (incr l)) := by
  refine FnV.mk fn86 rfl md86 ⟨⟨[], 0⟩, ?_⟩ (fun _ => rfl) rfl
  cases l with
  | nil =>
    have h0 : exI TT (FI.of Try.f86 (TT.an 86)) K86_0 [(0, .lst len (ints [])), (3, .int .i64 1)] ⟨[], 0⟩ = some (.bool true, ⟨[], 0⟩) := by
      obtain rfl : len = 0 := hlen
      rw [fi86]
      rw [xl86_0]
      simp only [B86_0, b86, Try.f86, Option.getD, fstC, sndC, bodyC, thnC, elsC]
      simp [xI_seq, xI_region, xI_ret, regA, regOps, runOps, opStep, wantedA, opA, evo, evos, calleeA, lk, nif_eq, putE, paramsE, valS, val2, keepE, restrict, finA, resA, binA, binInt, ofConst, ofConst1, loadA, TK.isAgg, asVar, unA, builtinA, lenOpA, lenA, ileb_cast, ileb_eq, ieqb_dec, indexAddrA, inB_dec, evPairs, storeA, AV.cellsOf, pairsOf, xI_nil, binBool, gcE, evOpt, xI_block, xI_loopH, xI_condM, xI_exitM, xI_skip, xI_blk, exitA, ty2, ty3, ty22, eK86_0_0]
      simp only [R86_0_0, b86, Try.f86, Option.getD, fstC, sndC, bodyC, thnC, elsC]
      simp [xI_seq, xI_region, xI_ret, regA, regOps, runOps, opStep, wantedA, opA, evo, evos, calleeA, lk, nif_eq, putE, paramsE, valS, val2, keepE, restrict, finA, resA, binA, binInt, ofConst, ofConst1, loadA, TK.isAgg, asVar, unA, builtinA, lenOpA, lenA, ileb_cast, ileb_eq, ieqb_dec, indexAddrA, inB_dec, evPairs, storeA, AV.cellsOf, pairsOf, xI_nil, binBool, gcE, evOpt, xI_block, xI_loopH, xI_condM, xI_exitM, xI_skip, xI_blk, exitA, ty2, ty3, ty22, eK86_0_0]
    rw [fi86] at h0 ⊢
    simp [xI_seq, xI_region, xI_ret, regA, regOps, runOps, opStep, wantedA, opA, evo, evos, calleeA, lk, nif_eq, putE, paramsE, valS, val2, keepE, restrict, finA, resA, binA, binInt, ofConst, ofConst1, loadA, TK.isAgg, asVar, unA, builtinA, lenOpA, lenA, ileb_cast, ileb_eq, ieqb_dec, indexAddrA, inB_dec, evPairs, storeA, AV.cellsOf, pairsOf, xI_nil, binBool, gcE, evOpt, xI_block, xI_loopH, xI_condM, xI_exitM, xI_skip, xI_blk, exitA, ty2, ty3, ty22, eK86_0_0, incr]
    exact h0
  | cons a l =>
    have h0 := l86 (a :: l) len hlen hs ⟨[], 0⟩ l [] a rfl
    rw [fi86] at h0 ⊢
    simp [xI_seq, xI_region, xI_ret, regA, regOps, runOps, opStep, wantedA, opA, evo, evos, calleeA, lk, nif_eq, putE, paramsE, valS, val2, keepE, restrict, finA, resA, binA, binInt, ofConst, ofConst1, loadA, TK.isAgg, asVar, unA, builtinA, lenOpA, lenA, ileb_cast, ileb_eq, ieqb_dec, indexAddrA, inB_dec, evPairs, storeA, AV.cellsOf, pairsOf, xI_nil, binBool, gcE, evOpt, xI_block, xI_loopH, xI_condM, xI_exitM, xI_skip, xI_blk, exitA, ty2, ty3, ty22, eK86_0_0]
    exact h0

noncomputable def b85 : Code := Try.f85.body.getD .skip
noncomputable def B85_0 : Code := (bodyC (bodyC (sndC (fstC (sndC b85)))))
noncomputable def K85_0 : List It := .lp B85_0 :: .blk 0 :: .code (sndC (sndC b85)) :: []
theorem xl85_0 {fi : FI} {env : Env} {σ : St} : exI TT fi K85_0 env σ = exI TT fi (.code B85_0 :: K85_0) env σ := by unfold K85_0; exact xI_lp
noncomputable def R85_0_0 : List It := .code (sndC (sndC b85)) :: []
theorem eK85_0_0 : exitA 0 K85_0 = some R85_0_0 := rfl
theorem l85 (l : List Int) (len : Nat) (hlen : len = l.length) (hs : len < 3000000) (lo hi : Int) (σ : St) : ∀ (suf pre : List Int) (a : Int), l = pre ++ a :: suf →
    exI TT (FI.of Try.f85 (TT.an 85)) K85_0 [(0, .lst len (ints l)), (1, .int .i64 lo), (2, .int .i64 hi), (7, .int .i64 (pre.length + 1 : Nat))] σ = some (.bool (allR suf lo hi && incr (a :: suf)), σ) := by
  intro suf
  induction suf with
  | nil =>
    intro pre a hl
    have hll : len = pre.length + 1 := by rw [hlen, hl]; simp
    subst hll
    rw [fi85]
    rw [xl85_0]
    simp only [B85_0, b85, Try.f85, Option.getD, fstC, sndC, bodyC, thnC, elsC]
    simp [xI_seq, xI_region, xI_ret, regA, regOps, runOps, opStep, wantedA, opA, evo, evos, calleeA, lk, nif_eq, putE, paramsE, valS, val2, keepE, restrict, finA, resA, binA, binInt, ofConst, ofConst1, loadA, TK.isAgg, asVar, unA, builtinA, lenOpA, lenA, ileb_cast, ileb_eq, ieqb_dec, indexAddrA, inB_dec, evPairs, storeA, AV.cellsOf, pairsOf, xI_nil, binBool, gcE, evOpt, xI_block, xI_loopH, xI_condM, xI_exitM, xI_skip, xI_blk, exitA, ty2, ty3, ty4, ty22, eK85_0_0]
    simp only [R85_0_0, b85, Try.f85, Option.getD, fstC, sndC, bodyC, thnC, elsC]
    simp [xI_seq, xI_region, xI_ret, regA, regOps, runOps, opStep, wantedA, opA, evo, evos, calleeA, lk, nif_eq, putE, paramsE, valS, val2, keepE, restrict, finA, resA, binA, binInt, ofConst, ofConst1, loadA, TK.isAgg, asVar, unA, builtinA, lenOpA, lenA, ileb_cast, ileb_eq, ieqb_dec, indexAddrA, inB_dec, evPairs, storeA, AV.cellsOf, pairsOf, xI_nil, binBool, gcE, evOpt, xI_block, xI_loopH, xI_condM, xI_exitM, xI_skip, xI_blk, exitA, ty2, ty3, ty4, ty22, eK85_0_0, incr, allR]
  | cons b suf ih =>
    intro pre a hl
    have hll : len = pre.length + (suf.length + 2) := by rw [hlen, hl]; simp
    have hg1 : l[pre.length]? = some a := by simp [hl]
    have hg2 : l[pre.length + 1]? = some b := by simp [hl]
    have h1 := ih (pre ++ [a]) b (by simp [hl])
    simp only [List.length_append, List.length_singleton] at h1
    obtain ⟨q, hq⟩ : ∃ q, q = pre.length := ⟨_, rfl⟩
    rw [← hq] at hg1 hg2 h1 hll ⊢
    have hlt : ¬ len ≤ q + 1 := by omega
    have hlt2 : (q : Int) + 1 < (len : Int) := by omega
    have hlt3 : (q : Int) < (len : Int) := by omega
    have hlt4 : ¬ (len : Int) ≤ (q : Int) + 1 := by omega
    have hlt5 : q < len := by omega
    have hz : (0 : Int) ≤ (q : Int) + 1 := by omega
    have hz2 : ¬ (q : Int) + 1 ≤ 0 := by omega
    have htn : ((q : Int) + 1).toNat = q + 1 := by omega
    have hw1 : wrapA .i64 (q : Int) = (q : Int) := wrapA_id (by omega) (by omega)
    have hw3 : wrapA .i64 ((q : Int) + 1 + 1) = (q : Int) + 1 + 1 := wrapA_id (by omega) (by omega)
    rw [show ((q + 1 : Nat) : Int) = (q : Int) + 1 by omega]
    rw [show ((q + 1 + 1 : Nat) : Int) = (q : Int) + 1 + 1 by omega] at h1
    cases hin : inR b lo hi with
    | false =>
      have hi2 : (allR (b :: suf) lo hi && incr (a :: b :: suf)) = false := by simp [allR, hin]
      rw [hi2]
      rw [fi85]
      rw [xl85_0]
      simp only [B85_0, b85, Try.f85, Option.getD, fstC, sndC, bodyC, thnC, elsC]
      simp [xI_seq, xI_region, xI_ret, regA, regOps, runOps, opStep, wantedA, opA, evo, evos, calleeA, lk, nif_eq, putE, paramsE, valS, val2, keepE, restrict, finA, resA, binA, binInt, ofConst, ofConst1, loadA, TK.isAgg, asVar, unA, builtinA, lenOpA, lenA, ileb_cast, ileb_eq, ieqb_dec, indexAddrA, inB_dec, evPairs, storeA, AV.cellsOf, pairsOf, xI_nil, binBool, gcE, evOpt, xI_block, xI_loopH, xI_condM, xI_exitM, xI_skip, xI_blk, exitA, ty2, ty3, ty4, ty22, eK85_0_0, hw1, hw3, hlt, hlt2, hlt3, hlt4, hlt5, hz, hz2, htn, lst_read hg1, lst_read hg2, c66, hin]
    | true =>
      by_cases hab : a < b
      · have hab2 : ¬ b ≤ a := by omega
        have hi2 : (allR (b :: suf) lo hi && incr (a :: b :: suf)) = (allR suf lo hi && incr (b :: suf)) := by simp [incr, allR, hab, hin]
        rw [hi2]
        rw [fi85] at h1 ⊢
        rw [xl85_0]
        simp only [B85_0, b85, Try.f85, Option.getD, fstC, sndC, bodyC, thnC, elsC]
        simp [xI_seq, xI_region, xI_ret, regA, regOps, runOps, opStep, wantedA, opA, evo, evos, calleeA, lk, nif_eq, putE, paramsE, valS, val2, keepE, restrict, finA, resA, binA, binInt, ofConst, ofConst1, loadA, TK.isAgg, asVar, unA, builtinA, lenOpA, lenA, ileb_cast, ileb_eq, ieqb_dec, indexAddrA, inB_dec, evPairs, storeA, AV.cellsOf, pairsOf, xI_nil, binBool, gcE, evOpt, xI_block, xI_loopH, xI_condM, xI_exitM, xI_skip, xI_blk, exitA, ty2, ty3, ty4, ty22, eK85_0_0, hw1, hw3, hlt, hlt2, hlt3, hlt4, hlt5, hz, hz2, htn, lst_read hg1, lst_read hg2, c66, hin, hab, hab2]
        simpa using h1
      · have hab2 : b ≤ a := by omega
        have hi2 : (allR (b :: suf) lo hi && incr (a :: b :: suf)) = false := by simp [incr, hab]
        rw [hi2]
        rw [fi85]
        rw [xl85_0]
        simp only [B85_0, b85, Try.f85, Option.getD, fstC, sndC, bodyC, thnC, elsC]
        simp [xI_seq, xI_region, xI_ret, regA, regOps, runOps, opStep, wantedA, opA, evo, evos, calleeA, lk, nif_eq, putE, paramsE, valS, val2, keepE, restrict, finA, resA, binA, binInt, ofConst, ofConst1, loadA, TK.isAgg, asVar, unA, builtinA, lenOpA, lenA, ileb_cast, ileb_eq, ieqb_dec, indexAddrA, inB_dec, evPairs, storeA, AV.cellsOf, pairsOf, xI_nil, binBool, gcE, evOpt, xI_block, xI_loopH, xI_condM, xI_exitM, xI_skip, xI_blk, exitA, ty2, ty3, ty4, ty22, eK85_0_0, hw1, hw3, hlt, hlt2, hlt3, hlt4, hlt5, hz, hz2, htn, lst_read hg1, lst_read hg2, c66, hin, hab2]
theorem v85 (l : List Int) (len : Nat) (hlen : len = l.length) (hs : len < 3000000) (lo hi : Int) : FnV TT 85 [.lst len (ints l), .int .i64 lo, .int .i64 hi] (.bool (allR l lo hi && incr l)) := by
  refine FnV.mk fn85 rfl md85 ⟨⟨[], 0⟩, ?_⟩ (fun _ => rfl) rfl
  have h0 : exI TT (FI.of Try.f85 (TT.an 85)) K85_0 [(0, .lst len (ints l)), (1, .int .i64 lo), (2, .int .i64 hi), (7, .int .i64 0)] ⟨[], 0⟩ = some (.bool (allR l lo hi && incr l), ⟨[], 0⟩) := by
    cases l with
    | nil =>
      obtain rfl : len = 0 := hlen
      rw [fi85]
      rw [xl85_0]
      simp only [B85_0, b85, Try.f85, Option.getD, fstC, sndC, bodyC, thnC, elsC]
      simp [xI_seq, xI_region, xI_ret, regA, regOps, runOps, opStep, wantedA, opA, evo, evos, calleeA, lk, nif_eq, putE, paramsE, valS, val2, keepE, restrict, finA, resA, binA, binInt, ofConst, ofConst1, loadA, TK.isAgg, asVar, unA, builtinA, lenOpA, lenA, ileb_cast, ileb_eq, ieqb_dec, indexAddrA, inB_dec, evPairs, storeA, AV.cellsOf, pairsOf, xI_nil, binBool, gcE, evOpt, xI_block, xI_loopH, xI_condM, xI_exitM, xI_skip, xI_blk, exitA, ty2, ty3, ty4, ty22, eK85_0_0]
      simp only [R85_0_0, b85, Try.f85, Option.getD, fstC, sndC, bodyC, thnC, elsC]
      simp [xI_seq, xI_region, xI_ret, regA, regOps, runOps, opStep, wantedA, opA, evo, evos, calleeA, lk, nif_eq, putE, paramsE, valS, val2, keepE, restrict, finA, resA, binA, binInt, ofConst, ofConst1, loadA, TK.isAgg, asVar, unA, builtinA, lenOpA, lenA, ileb_cast, ileb_eq, ieqb_dec, indexAddrA, inB_dec, evPairs, storeA, AV.cellsOf, pairsOf, xI_nil, binBool, gcE, evOpt, xI_block, xI_loopH, xI_condM, xI_exitM, xI_skip, xI_blk, exitA, ty2, ty3, ty4, ty22, eK85_0_0, incr, allR]
    | cons a l =>
      have hlt : ¬ len ≤ 0 := by rw [hlen]; simp
      have hlt2 : 0 < len := by omega
      have hlt3 : ¬ len = 0 := by omega
      have hg : (a :: l)[0]? = some a := rfl
      cases hin : inR a lo hi with
      | false =>
        have hi2 : (allR (a :: l) lo hi && incr (a :: l)) = false := by simp [allR, hin]
        rw [hi2]
        rw [fi85]
        rw [xl85_0]
        simp only [B85_0, b85, Try.f85, Option.getD, fstC, sndC, bodyC, thnC, elsC]
        simp [xI_seq, xI_region, xI_ret, regA, regOps, runOps, opStep, wantedA, opA, evo, evos, calleeA, lk, nif_eq, putE, paramsE, valS, val2, keepE, restrict, finA, resA, binA, binInt, ofConst, ofConst1, loadA, TK.isAgg, asVar, unA, builtinA, lenOpA, lenA, ileb_cast, ileb_eq, ieqb_dec, indexAddrA, inB_dec, evPairs, storeA, AV.cellsOf, pairsOf, xI_nil, binBool, gcE, evOpt, xI_block, xI_loopH, xI_condM, xI_exitM, xI_skip, xI_blk, exitA, ty2, ty3, ty4, ty22, eK85_0_0, hlt, hlt2, hlt3, lst_read hg, c66, hin]
      | true =>
        have h1 := l85 (a :: l) len hlen hs lo hi ⟨[], 0⟩ l [] a rfl
        have hi2 : (allR (a :: l) lo hi && incr (a :: l)) = (allR l lo hi && incr (a :: l)) := by simp [allR, hin]
        rw [hi2]
        have hw1 : wrapA .i64 1 = 1 := rfl
        rw [fi85] at h1 ⊢
        rw [xl85_0]
        simp only [B85_0, b85, Try.f85, Option.getD, fstC, sndC, bodyC, thnC, elsC]
        simp [xI_seq, xI_region, xI_ret, regA, regOps, runOps, opStep, wantedA, opA, evo, evos, calleeA, lk, nif_eq, putE, paramsE, valS, val2, keepE, restrict, finA, resA, binA, binInt, ofConst, ofConst1, loadA, TK.isAgg, asVar, unA, builtinA, lenOpA, lenA, ileb_cast, ileb_eq, ieqb_dec, indexAddrA, inB_dec, evPairs, storeA, AV.cellsOf, pairsOf, xI_nil, binBool, gcE, evOpt, xI_block, xI_loopH, xI_condM, xI_exitM, xI_skip, xI_blk, exitA, ty2, ty3, ty4, ty22, eK85_0_0, hlt, hlt2, hlt3, lst_read hg, c66, hin, hw1]
        simpa using h1
  rw [fi85] at h0 ⊢
  simp [xI_seq, xI_region, xI_ret, regA, regOps, runOps, opStep, wantedA, opA, evo, evos, calleeA, lk, nif_eq, putE, paramsE, valS, val2, keepE, restrict, finA, resA, binA, binInt, ofConst, ofConst1, loadA, TK.isAgg, asVar, unA, builtinA, lenOpA, lenA, ileb_cast, ileb_eq, ieqb_dec, indexAddrA, inB_dec, evPairs, storeA, AV.cellsOf, pairsOf, xI_nil, binBool, gcE, evOpt, xI_block, xI_loopH, xI_condM, xI_exitM, xI_skip, xI_blk, exitA, ty2, ty3, ty4, ty22, eK85_0_0]
  exact h0

end Go.Proofs.Ytaniaeefijgaiaa
