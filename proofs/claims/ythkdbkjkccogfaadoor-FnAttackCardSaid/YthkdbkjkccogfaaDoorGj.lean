/- Contracts: members, places of agreement; the plain law of best states. Nothing is claimed here; no condition. -/
import Derived.Test.YthkdbkjkccogfaaDoorGi
namespace Go.Proofs.YthkdbkjkccogfaaDoor
open Go Go.Abs
set_option linter.unusedSimpArgs false
set_option linter.unusedVariables false
open Go.Wd
theorem agC_full (w t s : Nat) (l : List UInt8) : ∀ i, (∀ j, j < i → l[j]? = some (bb (rbit w (endR w t j s)))) → agC w t s l i = i
  | 0, _ => rfl
  | i + 1, h => by
    rw [agC, agC_full w t s l i (fun j hj => h j (by omega)), if_pos (h i (by omega))]
theorem agC_near (w t s a : Nat) (l : List UInt8) : ∀ i, (∀ j, j < i → j ≠ a → l[j]? = some (bb (rbit w (endR w t j s)))) → (i ≤ a → agC w t s l i = i) ∧ i ≤ agC w t s l i + 1
  | 0, _ => ⟨fun _ => rfl, by omega⟩
  | i + 1, h => by
    obtain ⟨h1, h2⟩ := agC_near w t s a l i (fun j hj => h j (by omega))
    rw [agC]
    refine ⟨fun hi => ?_, ?_⟩
    · rw [h1 (by omega), if_pos (h i (by omega) (by omega))]
    · by_cases hi : i = a
      · rw [h1 (by omega)]; omega
      · rw [if_pos (h i (by omega) hi)]; omega
theorem bestR_ok (w t : Nat) (l : List UInt8) : ∀ k, (∀ x ∈ (bestR w t l k).1, ∃ s : Nat, s < k ∧ x = s ∧ ((agC w t s l l.length : Nat) : Int) = (bestR w t l k).2) ∧
    (∀ s : Nat, s < k → ((agC w t s l l.length : Nat) : Int) ≤ (bestR w t l k).2) ∧ (∀ s : Nat, s < k → ((agC w t s l l.length : Nat) : Int) = (bestR w t l k).2 → (s : Int) ∈ (bestR w t l k).1)
  | 0 => ⟨fun x hx => by simp [bestR] at hx, fun s hs => by omega, fun s hs => by omega⟩
  | k + 1 => by
    obtain ⟨h1, h2, h3⟩ := bestR_ok w t l k
    rw [bestR, bst]
    split
    · rename_i hg
      refine ⟨fun x hx => ⟨k, by omega, by simpa using hx, rfl⟩, fun s hs => ?_, fun s hs he => ?_⟩
      · by_cases hk : s = k
        · subst hk; exact Int.le_refl _
        · have := h2 s (by omega); simp only; omega
      · by_cases hk : s = k
        · subst hk; simp
        · have := h2 s (by omega); simp only at he; omega
    · rename_i hg
      split
      · rename_i he
        refine ⟨fun x hx => ?_, fun s hs => ?_, fun s hs hq => ?_⟩
        · simp only [List.mem_append, List.mem_singleton] at hx
          rcases hx with hx | rfl
          · obtain ⟨s, a, b, c⟩ := h1 x hx; exact ⟨s, by omega, b, c⟩
          · exact ⟨k, by omega, rfl, he.symm⟩
        · by_cases hk : s = k
          · subst hk; simp only; omega
          · exact h2 s (by omega)
        · simp only [List.mem_append, List.mem_singleton]
          by_cases hk : s = k
          · subst hk; exact Or.inr rfl
          · exact Or.inl (h3 s (by omega) hq)
      · rename_i hq
        refine ⟨fun x hx => ?_, fun s hs => ?_, fun s hs hr => ?_⟩
        · obtain ⟨s, a, b, c⟩ := h1 x hx; exact ⟨s, by omega, b, c⟩
        · by_cases hk : s = k
          · subst hk; simp only; omega
          · exact h2 s (by omega)
        · by_cases hk : s = k
          · subst hk; simp only at hr; omega
          · exact h3 s (by omega) hr

noncomputable def b22 : Code := Tryd.f22.body.getD .skip
noncomputable def B22_0 : Code := (bodyC (bodyC (sndC (fstC (sndC b22)))))
noncomputable def K22_0 : List It := .lp B22_0 :: .blk 0 :: .code (sndC (sndC b22)) :: []
theorem xl22_0 {fi : FI} {env : Env} {σ : St} : exI TT fi K22_0 env σ = exI TT fi (.code B22_0 :: K22_0) env σ := by unfold K22_0; exact xI_lp
noncomputable def R22_0_0 : List It := .code (sndC (sndC b22)) :: []
theorem eK22_0_0 : exitA 0 K22_0 = some R22_0_0 := rfl
theorem l22 (A : List Int) (x : Int) (len : Nat) (hlen : len = A.length) (hl : len ≤ 1000000) (v : AV) (σ : St) (hv : v = .lst len (ints A)) : ∀ (suf pre : List Int), A = pre ++ suf → x ∈ suf →
    exI TT (FI.of Tryd.f22 (TT.an 22)) K22_0 [(0, v), (1, .int .i64 x), (5, .int .i64 pre.length)] σ = some (.bool true, σ) := by
  subst hv
  intro suf
  induction suf with
  | nil => intro pre hp hm; simp at hm
  | cons y suf ih =>
    intro pre hp hm
    have hll : len = pre.length + (suf.length + 1) := by rw [hlen, hp]; simp
    have hg : A[pre.length]? = some y := by simp [hp]
    have hlt : ¬ len ≤ pre.length := by omega
    have hlt2 : pre.length < len := by omega
    have hw := wrapS (n := pre.length) (by omega)
    by_cases hy : y = x
    · rw [fi22]
      rw [xl22_0]
      simp only [B22_0, b22, Tryd.f22, Option.getD, fstC, sndC, bodyC, thnC, elsC]
      simp [xI_seq, xI_region, xI_ret, regA, regOps, runOps, opStep, wantedA, opA, evo, evos, calleeA, lk, nif_eq, putE, paramsE, valS, val2, keepE, restrict, finA, resA, binA, binInt, ofConst, ofConst1, loadA, TK.isAgg, asVar, unA, builtinA, lenOpA, lenA, ileb_cast, ileb_eq, ieqb_dec, indexAddrA, inB_dec, evPairs, storeA, AV.cellsOf, pairsOf, xI_nil, binBool, gcE, evOpt, tagZ, xI_block, xI_loopH, xI_condM, xI_exitM, xI_skip, xI_blk, exitA, ty2, ty3, ty24, eK22_0_0, hlt, hlt2, hy, lst_read hg]
    · have h1 := ih (pre ++ [y]) (by simp [hp]) (by simp at hm; exact hm.resolve_left fun e => hy e.symm)
      simp only [List.length_append, List.length_singleton] at h1
      rw [fi22] at h1 ⊢
      rw [xl22_0]
      simp only [B22_0, b22, Tryd.f22, Option.getD, fstC, sndC, bodyC, thnC, elsC]
      simp [xI_seq, xI_region, xI_ret, regA, regOps, runOps, opStep, wantedA, opA, evo, evos, calleeA, lk, nif_eq, putE, paramsE, valS, val2, keepE, restrict, finA, resA, binA, binInt, ofConst, ofConst1, loadA, TK.isAgg, asVar, unA, builtinA, lenOpA, lenA, ileb_cast, ileb_eq, ieqb_dec, indexAddrA, inB_dec, evPairs, storeA, AV.cellsOf, pairsOf, xI_nil, binBool, gcE, evOpt, tagZ, xI_block, xI_loopH, xI_condM, xI_exitM, xI_skip, xI_blk, exitA, ty2, ty3, ty24, eK22_0_0, hlt, hlt2, hw, hy, lst_read hg]
      simpa using h1
theorem v22 (A : List Int) (x : Int) (hl : A.length ≤ 1000000) (hx : x ∈ A) : FnV TT 22 [.lst A.length (ints A), .int .i64 x] (.bool true) := by
  have h1 := l22 A x A.length rfl hl _ ⟨[], 0⟩ rfl A [] rfl hx
  refine FnV.mk fn22 rfl md22 ⟨⟨[], 0⟩, ?_⟩ (fun _ => rfl) rfl
  simp only [List.length_nil, show ((0 : Nat) : Int) = 0 from rfl, Int.natCast_zero] at h1
  rw [← h1, fi22]
  simp [xI_seq, xI_region, xI_ret, regA, regOps, runOps, opStep, wantedA, opA, evo, evos, calleeA, lk, nif_eq, putE, paramsE, valS, val2, keepE, restrict, finA, resA, binA, binInt, ofConst, ofConst1, loadA, TK.isAgg, asVar, unA, builtinA, lenOpA, lenA, ileb_cast, ileb_eq, ieqb_dec, indexAddrA, inB_dec, evPairs, storeA, AV.cellsOf, pairsOf, xI_nil, binBool, gcE, evOpt, tagZ, xI_block, xI_loopH, xI_condM, xI_exitM, xI_skip, xI_blk, exitA, ty2, ty3, ty24, eK22_0_0]
  rfl

noncomputable def b24 : Code := Tryd.f24.body.getD .skip
noncomputable def B24_0 : Code := (bodyC (bodyC (sndC (fstC (sndC (sndC b24))))))
noncomputable def K24_0 : List It := .lp B24_0 :: .blk 0 :: .code (sndC (sndC (sndC b24))) :: []
theorem xl24_0 {fi : FI} {env : Env} {σ : St} : exI TT fi K24_0 env σ = exI TT fi (.code B24_0 :: K24_0) env σ := by unfold K24_0; exact xI_lp
noncomputable def R24_0_0 : List It := .code (sndC (sndC (sndC b24))) :: []
theorem eK24_0_0 : exitA 0 K24_0 = some R24_0_0 := rfl
set_option maxHeartbeats 1000000 in
theorem l24 (w t s : Nat) (l : List UInt8) (hl : l.length ≤ 400) (σ : St) : ∀ m i : Nat, i + m = l.length →
    exI TT (FI.of Tryd.f24 (TT.an 24)) K24_0 [(0, .str (outR w t l.length s)), (1, .str l), (5, .int .i64 (agC w t s l i : Nat)), (6, .int .i64 i)] σ = some (.int .i64 (agC w t s l l.length : Nat), σ) := by
  have hol := outR_length w t l.length s
  intro m
  induction m with
  | zero =>
    intro i hi
    obtain rfl : i = l.length := by omega
    rw [fi24]
    rw [xl24_0]
    simp only [B24_0, b24, Tryd.f24, Option.getD, fstC, sndC, bodyC, thnC, elsC]
    simp [xI_seq, xI_region, xI_ret, regA, regOps, runOps, opStep, wantedA, opA, evo, evos, calleeA, lk, nif_eq, putE, paramsE, valS, val2, keepE, restrict, finA, resA, binA, binInt, ofConst, ofConst1, loadA, TK.isAgg, asVar, unA, builtinA, lenOpA, lenA, ileb_cast, ileb_eq, ieqb_dec, indexAddrA, inB_dec, evPairs, storeA, AV.cellsOf, pairsOf, xI_nil, binBool, gcE, evOpt, tagZ, xI_block, xI_loopH, xI_condM, xI_exitM, xI_skip, xI_blk, exitA, ty2, ty3, ty5, ty9, eK24_0_0, runTr, pairsOk, pairOk, lstAt, lastOf, sameVal, AV.eqv, eqvs, eqvs_ints, regOps, blt_dec, cond_true, cond_false, ty2, ty9, ty5, indexA, hol]
    simp only [R24_0_0, b24, Tryd.f24, Option.getD, fstC, sndC, bodyC, thnC, elsC]
    simp [xI_seq, xI_region, xI_ret, regA, regOps, runOps, opStep, wantedA, opA, evo, evos, calleeA, lk, nif_eq, putE, paramsE, valS, val2, keepE, restrict, finA, resA, binA, binInt, ofConst, ofConst1, loadA, TK.isAgg, asVar, unA, builtinA, lenOpA, lenA, ileb_cast, ileb_eq, ieqb_dec, indexAddrA, inB_dec, evPairs, storeA, AV.cellsOf, pairsOf, xI_nil, binBool, gcE, evOpt, tagZ, xI_block, xI_loopH, xI_condM, xI_exitM, xI_skip, xI_blk, exitA, ty2, ty3, ty5, ty9, eK24_0_0, runTr, pairsOk, pairOk, lstAt, lastOf, sameVal, AV.eqv, eqvs, eqvs_ints, regOps, blt_dec, cond_true, cond_false, ty2, ty9, ty5, indexA, hol]
  | succ m ih =>
    intro i hi
    have h1 := ih (i + 1) (by omega)
    have hi1 : ((i + 1 : Nat) : Int) = (i : Int) + 1 := by omega
    have hil : i < l.length := by omega
    have q1 := outR_get w t l.length s i hil
    obtain ⟨x, q2⟩ := get_at hil
    have hlt : (i : Int) < (l.length : Int) := by omega
    have hnle : ¬ l.length ≤ i := by omega
    have hw := wrapS (n := i) (by omega)
    have hag := agC_le w t s l i
    have hwa := wrapS (n := agC w t s l i) (by omega)
    rw [← h1]
    by_cases hb : bb (rbit w (endR w t i s)) = x
    · have hst1 : ((agC w t s l (i + 1) : Nat) : Int) = ((agC w t s l i : Nat) : Int) + 1 := by rw [agC, if_pos (by rw [q2, hb])]; omega
      have hbn : (bb (rbit w (endR w t i s))).toNat = x.toNat := by rw [hb]
      have hbt : ((bb (rbit w (endR w t i s))).toNat : Int) = (x.toNat : Int) := by rw [hb]
      rw [hi1, hst1]
      generalize agC w t s l i = z at *
      conv => lhs; rw [fi24, xl24_0]; simp only [B24_0, b24, Tryd.f24, Option.getD, fstC, sndC, bodyC, thnC, elsC]
      rw [fi24]
      simp [xI_seq, xI_region, xI_ret, regA, regOps, runOps, opStep, wantedA, opA, evo, evos, calleeA, lk, nif_eq, putE, paramsE, valS, val2, keepE, restrict, finA, resA, binA, binInt, ofConst, ofConst1, loadA, TK.isAgg, asVar, unA, builtinA, lenOpA, lenA, ileb_cast, ileb_eq, ieqb_dec, indexAddrA, inB_dec, evPairs, storeA, AV.cellsOf, pairsOf, xI_nil, binBool, gcE, evOpt, tagZ, xI_block, xI_loopH, xI_condM, xI_exitM, xI_skip, xI_blk, exitA, ty2, ty3, ty5, ty9, eK24_0_0, runTr, pairsOk, pairOk, lstAt, lastOf, sameVal, AV.eqv, eqvs, eqvs_ints, regOps, blt_dec, cond_true, cond_false, ty2, ty9, ty5, indexA, hol, q1, q2, hlt, hnle, hw, hwa, hbt, hbn]
    · have hst : agC w t s l (i + 1) = agC w t s l i := by rw [agC, if_neg (by rw [q2]; intro e; cases e; exact hb rfl)]; rfl
      have hbn : ¬ (bb (rbit w (endR w t i s))).toNat = x.toNat := fun e => hb (UInt8.toNat_inj.1 e)
      have hbt : ¬ ((bb (rbit w (endR w t i s))).toNat : Int) = (x.toNat : Int) := by omega
      rw [hi1, hst]
      generalize agC w t s l i = z at *
      conv => lhs; rw [fi24, xl24_0]; simp only [B24_0, b24, Tryd.f24, Option.getD, fstC, sndC, bodyC, thnC, elsC]
      rw [fi24]
      simp [xI_seq, xI_region, xI_ret, regA, regOps, runOps, opStep, wantedA, opA, evo, evos, calleeA, lk, nif_eq, putE, paramsE, valS, val2, keepE, restrict, finA, resA, binA, binInt, ofConst, ofConst1, loadA, TK.isAgg, asVar, unA, builtinA, lenOpA, lenA, ileb_cast, ileb_eq, ieqb_dec, indexAddrA, inB_dec, evPairs, storeA, AV.cellsOf, pairsOf, xI_nil, binBool, gcE, evOpt, tagZ, xI_block, xI_loopH, xI_condM, xI_exitM, xI_skip, xI_blk, exitA, ty2, ty3, ty5, ty9, eK24_0_0, runTr, pairsOk, pairOk, lstAt, lastOf, sameVal, AV.eqv, eqvs, eqvs_ints, regOps, blt_dec, cond_true, cond_false, ty2, ty9, ty5, indexA, hol, q1, q2, hlt, hnle, hw, hwa, hbt, hbn]
theorem v24 (w t s : Nat) (l : List UInt8) (hl : l.length ≤ 400) : FnV TT 24 [.str (outR w t l.length s), .str l] (.int .i64 (agC w t s l l.length : Nat)) := by
  have h1 := l24 w t s l hl ⟨[], 0⟩ l.length 0 (by omega)
  refine FnV.mk fn24 rfl md24 ⟨⟨[], 0⟩, ?_⟩ (fun _ => rfl) rfl
  simp only [agC, show ((0 : Nat) : Int) = 0 from rfl, Int.natCast_zero] at h1
  rw [← h1, fi24]
  simp [xI_seq, xI_region, xI_ret, regA, regOps, runOps, opStep, wantedA, opA, evo, evos, calleeA, lk, nif_eq, putE, paramsE, valS, val2, keepE, restrict, finA, resA, binA, binInt, ofConst, ofConst1, loadA, TK.isAgg, asVar, unA, builtinA, lenOpA, lenA, ileb_cast, ileb_eq, ieqb_dec, indexAddrA, inB_dec, evPairs, storeA, AV.cellsOf, pairsOf, xI_nil, binBool, gcE, evOpt, tagZ, xI_block, xI_loopH, xI_condM, xI_exitM, xI_skip, xI_blk, exitA, ty2, ty3, ty5, ty9, eK24_0_0]
  rfl

end Go.Proofs.YthkdbkjkccogfaaDoor
