/- Contracts that the law of combined streams needs. Nothing is claimed here; no condition. -/
import Derived.Test.YthkdbkjkccogfaaDoorOb
set_option linter.unusedSimpArgs false
set_option linter.unusedVariables false
namespace Go.Proofs.YthkdbkjkccogfaaDoor
open Go Go.Abs
open Go.Wd
open Go.Wd
open Go.Wd
open Go.Wd
open Go.Wd
open Go.Wd
theorem outR_bits (w t : Nat) : ∀ m n, (outR w t m n).all isBit = true
  | 0, _ => rfl
  | m + 1, n => by
    rw [outR, List.all_cons, outR_bits w t m]
    rw [isBit_nat, bb_nat (rbit_lt w n)]
    have := rbit_lt w n
    generalize rbit w n = r at *
    have : r = 0 ∨ r = 1 := by omega
    rcases this with rfl | rfl <;> rfl
theorem bb_isBit {r : Nat} (h : r < 2) : isBit (bb r) = true := by
  have : r = 0 ∨ r = 1 := by omega
  rcases this with rfl | rfl <;> rfl
/-- The widths of all beginnings. -/
noncomputable def wdL (l : List UInt8) : Nat → List Nat
  | 0 => []
  | n + 1 => wdL l n ++ [bmL (l.take (n + 1))]
theorem wdL_len (l : List UInt8) : ∀ n, (wdL l n).length = n
  | 0 => rfl
  | n + 1 => by simp [wdL, wdL_len l n]
theorem wdL_get (l : List UInt8) : ∀ n i, i < n → (wdL l n)[i]? = some (bmL (l.take (i + 1)))
  | n + 1, i, h => by
    rw [wdL]
    by_cases hi : i < n
    · rw [List.getElem?_append_left (by rw [wdL_len]; exact hi)]; exact wdL_get l n i hi
    · have : i = n := by omega
      subst this
      rw [List.getElem?_append_right (by rw [wdL_len]; exact Nat.le_refl _), wdL_len]; simp

noncomputable def b27 : Code := Tryd.f27.body.getD .skip
noncomputable def B27_0 : Code := (bodyC (bodyC (sndC (fstC (sndC (sndC (sndC b27)))))))
noncomputable def K27_0 : List It := .lp B27_0 :: .blk 0 :: .code (sndC (sndC (sndC (sndC b27)))) :: []
theorem xl27_0 {fi : FI} {env : Env} {σ : St} : exI TT fi K27_0 env σ = exI TT fi (.code B27_0 :: K27_0) env σ := by unfold K27_0; exact xI_lp
noncomputable def R27_0_0 : List It := .code (sndC (sndC (sndC (sndC b27)))) :: []
theorem eK27_0_0 : exitA 0 K27_0 = some R27_0_0 := rfl
theorem l27 (l : List UInt8) (hl : l.length ≤ 32) (hb : l.all isBit = true) : ∀ (m i : Nat) (σ : St) (b : Nat), i + m = l.length → Row σ b (nints (wdL l i)) →
    ∃ σ' b', exI TT (FI.of Tryd.f27 (TT.an 27)) K27_0 [(0, .str l), (4, .sl b 0 i i), (5, .int .i64 (i + 1 : Nat))] σ = some (.tup [.sl b' 0 l.length l.length, .bool true], σ') ∧ Row σ' b' (nints (wdL l l.length)) := by
  intro m
  induction m with
  | zero =>
    intro i σ b hi hr
    obtain rfl : i = l.length := by omega
    refine ⟨σ, b, ?_, hr⟩
    have h1 : ¬ ((l.length : Int) + 1 ≤ (l.length : Int)) := by omega
    rw [fi27]
    rw [xl27_0]
    simp only [B27_0, b27, Tryd.f27, Option.getD, fstC, sndC, bodyC, thnC, elsC]
    simp [xI_seq, xI_region, xI_ret, regA, regOps, runOps, opStep, wantedA, opA, evo, evos, calleeA, lk, nif_eq, putE, paramsE, valS, val2, keepE, restrict, finA, resA, binA, binInt, ofConst, ofConst1, loadA, TK.isAgg, asVar, unA, builtinA, lenOpA, lenA, ileb_cast, ileb_eq, ieqb_dec, indexAddrA, inB_dec, evPairs, storeA, AV.cellsOf, pairsOf, xI_nil, binBool, gcE, evOpt, tagZ, xI_block, xI_loopH, xI_condM, xI_exitM, xI_skip, xI_blk, exitA, ty2, ty3, ty4, ty9, ty24, eK27_0_0, ty9, h1]
    simp only [R27_0_0, b27, Tryd.f27, Option.getD, fstC, sndC, bodyC, thnC, elsC]
    simp [xI_seq, xI_region, xI_ret, regA, regOps, runOps, opStep, wantedA, opA, evo, evos, calleeA, lk, nif_eq, putE, paramsE, valS, val2, keepE, restrict, finA, resA, binA, binInt, ofConst, ofConst1, loadA, TK.isAgg, asVar, unA, builtinA, lenOpA, lenA, ileb_cast, ileb_eq, ieqb_dec, indexAddrA, inB_dec, evPairs, storeA, AV.cellsOf, pairsOf, xI_nil, binBool, gcE, evOpt, tagZ, xI_block, xI_loopH, xI_condM, xI_exitM, xI_skip, xI_blk, exitA, ty2, ty3, ty4, ty9, ty24, eK27_0_0]
  | succ m ih =>
    intro i σ b hi hr
    have c1 := v72 (l.take (i + 1)) (by simp; omega) (List.all_eq_true.2 fun x hx => List.all_eq_true.1 hb x (List.mem_of_mem_take hx)) σ [.str (l.take (i + 1))] rfl
    obtain ⟨σ1, ha, hr1, hn1, _⟩ := nints_append_row (x := bmL (l.take (i + 1))) ty24 ty2 hr (n := i) (by rw [wdL_len]) (by omega)
    obtain ⟨σ', b', h1, h2⟩ := ih (i + 1) σ1 (σ.n + 1) (by omega) hr1
    refine ⟨σ', b', ?_, h2⟩
    have hsl : ∀ σ : St, sliceA TT σ 9 (.str l) none (some (.int .i64 ((i : Int) + 1))) = some (.str (l.take (i + 1))) := by
      intro σ
      have h1 : (i : Int) + 1 ≤ (l.length : Int) := by omega
      have h2 : 0 ≤ (i : Int) + 1 := by omega
      have h3 : ((i : Int) + 1).toNat = i + 1 := by omega
      simp [sliceA, ty9, boundA, h1, h2, h3]
    have hle : (i : Int) + 1 ≤ (l.length : Int) := by omega
    have hnl : ¬ ((l.length : Int) < (i : Int) + 1) := by omega
    have hw : wrapA .i64 ((i : Int) + 1 + 1) = (i : Int) + 1 + 1 := wrapA_id (by omega) (by omega)
    have bs1 : ∀ σ x, buildSliceA TT σ 24 1 [(0, .int .i64 x)] = some (.sl σ.n 0 1 1, σ.push ⟨[.int .i64 x], 1, false⟩) := bsI1
    simp only [show ((i + 1 : Nat) : Int) = (i : Int) + 1 by omega, show ((i + 1 + 1 : Nat) : Int) = (i : Int) + 1 + 1 by omega] at h1 ⊢
    generalize bmL (l.take (i + 1)) = x at *
    generalize bmT (l.take (i + 1)) = y at *
    generalize l.take (i + 1) = li at *
    rw [fi27] at h1 ⊢
    rw [xl27_0]
    simp only [B27_0, b27, Tryd.f27, Option.getD, fstC, sndC, bodyC, thnC, elsC]
    simp [xI_seq, xI_region, xI_ret, regA, regOps, runOps, opStep, wantedA, opA, evo, evos, calleeA, lk, nif_eq, putE, paramsE, valS, val2, keepE, restrict, finA, resA, binA, binInt, ofConst, ofConst1, loadA, TK.isAgg, asVar, unA, builtinA, lenOpA, lenA, ileb_cast, ileb_eq, ieqb_dec, indexAddrA, inB_dec, evPairs, storeA, AV.cellsOf, pairsOf, xI_nil, binBool, gcE, evOpt, tagZ, xI_block, xI_loopH, xI_condM, xI_exitM, xI_skip, xI_blk, exitA, ty2, ty3, ty4, ty9, ty24, eK27_0_0, ty9, hsl, hle, hnl, hw, c1, bs1, ha]
    exact h1
theorem v27 (l : List UInt8) (hl : l.length ≤ 32) (hb : l.all isBit = true) : FnF TT 27 [.str l] (.tup [.lst l.length (ints (nints (wdL l l.length))), .bool true]) := by
  obtain ⟨σ', b', h1, h2⟩ := l27 l hl hb l.length 0 ((⟨[], 0⟩ : St).push ⟨ints [], 1, false⟩) 0 (by omega) ⟨false, rfl, by decide⟩
  have c1 := v71 l (by omega) ⟨[], 0⟩ [.str l] rfl
  have hok : srOk l = true := by simp [srOk, isBits, hl, hb]; omega
  rw [hok] at c1
  refine FnF.mk fn27 rfl md27 ⟨σ', .tup [.sl b' 0 l.length l.length, .bool true], ?_, ?_⟩
  · simp only [Nat.zero_add, show ((1 : Nat) : Int) = 1 from rfl] at h1
    rw [← h1, fi27]
    simp [xI_seq, xI_region, xI_ret, regA, regOps, runOps, opStep, wantedA, opA, evo, evos, calleeA, lk, nif_eq, putE, paramsE, valS, val2, keepE, restrict, finA, resA, binA, binInt, ofConst, ofConst1, loadA, TK.isAgg, asVar, unA, builtinA, lenOpA, lenA, ileb_cast, ileb_eq, ieqb_dec, indexAddrA, inB_dec, evPairs, storeA, AV.cellsOf, pairsOf, xI_nil, binBool, gcE, evOpt, tagZ, xI_block, xI_loopH, xI_condM, xI_exitM, xI_skip, xI_blk, exitA, ty2, ty3, ty4, ty9, ty24, eK27_0_0, c1, bsI0]
    rfl
  · have h3 := h2.frz (d := 3) (n := l.length) (by rw [nints_length, wdL_len]) (Nat.le_refl _)
    show (match mapO (frzV σ' 5) [.sl b' 0 l.length l.length, .bool true] with | some l => some (AV.tup l) | none => none) = _
    rw [mapO_cons h3 (mapO_cons rfl rfl)]
theorem c27 (l : List UInt8) (hl : l.length ≤ 32) (hb : l.all isBit = true) (σ : St) : callI TT 27 [.str l] σ = some (.tup [.lst l.length (ints (nints (wdL l l.length))), .bool true], σ) := v27 l hl hb σ _ rfl rfl

end Go.Proofs.YthkdbkjkccogfaaDoor
