/- Contracts: registers and the bits that they output. Nothing is claimed here; no condition. -/
import Derived.Test.YthkdbkjkccogfaaDoorEb
namespace Go.Proofs.YthkdbkjkccogfaaDoor
open Go Go.Abs
set_option linter.unusedSimpArgs false
set_option linter.unusedVariables false
open Go.Wd
theorem blt_dec (a b : Nat) : Nat.blt a b = decide (a < b) := by
  by_cases h : a < b
  · rw [decide_eq_true h]; unfold Nat.blt; rw [Nat.ble_eq]; exact h
  · rw [decide_eq_false h]
    cases hx : Nat.blt a b with
    | false => rfl
    | true => exact (h (Nat.le_of_ble_eq_true hx)).elim
theorem eqvs_ints : ∀ (l : List Int), eqvs (ints l) (ints l) = true
  | [] => rfl
  | x :: l => by rw [ints_cons]; simp [eqvs, AV.eqv, eqvs_ints l]
theorem pow_62 {r : Nat} (h : r < 65536) : r < 2 ^ 62 := Nat.lt_of_lt_of_le h (by decide)
theorem pw_16 {k : Nat} (h : k ≤ 16) : pw k ≤ 65536 := Nat.pow_le_pow_right (by decide) h
theorem pw_pos (k : Nat) : 1 ≤ pw k := Nat.one_le_two_pow
theorem pw_dec {k : Nat} (h : k ≤ 16) : wrapA .i64 (((pw k : Nat) : Int) - 1) = ((pw k : Nat) : Int) - 1 := by
  have := pw_16 h
  exact wrapA_id (by omega) (by omega)

theorem c111 (k : Nat) (hk : k ≤ 16) (n : Int) (σ : St) : callI TT 111 [.int .i64 k, .int .i64 n] σ = some (.bool (inR n 0 (((pw k : Nat) : Int) - 1)), σ) := by
  refine (FnV.mk (args' := [.int .i64 k, .int .i64 n]) fn111 rfl md111 ⟨⟨[], 0⟩, ?_⟩ (fun _ => rfl) rfl) σ _ rfl
  have h1 : wrapA .u64 (k : Int) = (k : Int) := n_wrapu (by omega)
  have h2 := sh_1 (b := k) (by omega)
  have h3 := pw_dec hk
  rw [fi111]
  simp [xI_seq, xI_region, xI_ret, regA, regOps, runOps, opStep, wantedA, opA, evo, evos, calleeA, lk, nif_eq, putE, paramsE, valS, val2, keepE, restrict, finA, resA, binA, binInt, ofConst, ofConst1, loadA, TK.isAgg, asVar, unA, builtinA, lenOpA, lenA, ileb_cast, ileb_eq, ieqb_dec, indexAddrA, inB_dec, evPairs, storeA, AV.cellsOf, pairsOf, xI_nil, binBool, gcE, evOpt, tagZ, xI_block, xI_loopH, xI_condM, xI_exitM, xI_skip, xI_blk, exitA, ty2, ty36, h1, h2, h3, convA, c110]

theorem v13 (w t : Int) : FnV TT 13 [.agg [.int .i64 w, .int .i64 t]] (.agg [.int .i64 w, .int .i64 t]) := by
  refine FnV.mk fn13 rfl md13 ?_ (fun _ => rfl) rfl
  rw [fi13]
  simp [xI_seq, xI_region, xI_ret, regA, regOps, runOps, opStep, wantedA, opA, evo, evos, calleeA, lk, nif_eq, putE, paramsE, valS, val2, keepE, restrict, finA, resA, binA, binInt, ofConst, ofConst1, loadA, TK.isAgg, asVar, unA, builtinA, lenOpA, lenA, ileb_cast, ileb_eq, ieqb_dec, indexAddrA, inB_dec, evPairs, storeA, AV.cellsOf, pairsOf, xI_nil, binBool, gcE, evOpt, tagZ, xI_block, xI_loopH, xI_condM, xI_exitM, xI_skip, xI_blk, exitA, ty2, ty23, ty27, cellsAt, getCells, takeN, dropN, fieldAddrA, allOne, AV.one, n_push, storeCellsA, putN, overN, ty2, ty27, St.push, St.get, St.set, hget, hset, ty23]
def vreg (w t : Int) : Bool := inR w 0 16 && inR t 0 (((pw w.toNat : Nat) : Int) - 1)
def rst (w t s : Int) : Bool := vreg w t && inR s 0 (((pw w.toNat : Nat) : Int) - 1)
theorem reg_nat {w t : Int} (h : vreg w t = true) : ∃ k m : Nat, w = k ∧ t = m ∧ k ≤ 16 ∧ m < 2 ^ k ∧ m < 65536 := by
  simp only [Bool.and_eq_true, vreg] at h
  have h1 := inR_iff.1 h.1
  have h2 := inR_iff.1 h.2
  have h3 := pw_16 (k := w.toNat) (by omega)
  have h4 : pw w.toNat = 2 ^ w.toNat := rfl
  exact ⟨w.toNat, t.toNat, by omega, by omega, by omega, by omega, by omega⟩
theorem rst_nat {w t s : Int} (h : rst w t s = true) : ∃ k m n : Nat, w = k ∧ t = m ∧ s = n ∧ k ≤ 16 ∧ m < 2 ^ k ∧ n < 2 ^ k ∧ m < 65536 ∧ n < 65536 := by
  simp only [rst, Bool.and_eq_true] at h
  obtain ⟨k, m, rfl, rfl, h1, h2, h3⟩ := reg_nat h.1
  have h4 := inR_iff.1 h.2
  have h5 := pw_16 h1
  have h6 : pw k = 2 ^ k := rfl
  simp only [Int.toNat_natCast] at h4
  exact ⟨k, m, s.toNat, rfl, rfl, by omega, h1, h2, by omega, h3, by omega⟩
theorem vreg_of {k m : Nat} (h : k ≤ 16) (hm : m < 2 ^ k) : vreg k m = true := by
  have h6 : pw k = 2 ^ k := rfl
  simp only [vreg, Bool.and_eq_true]
  exact ⟨inR_iff.2 (by omega), inR_iff.2 (by rw [Int.toNat_natCast]; omega)⟩
theorem rst_of {k m n : Nat} (h : k ≤ 16) (hm : m < 2 ^ k) (hn : n < 2 ^ k) : rst k m n = true := by
  have h6 : pw k = 2 ^ k := rfl
  simp only [rst, Bool.and_eq_true]
  exact ⟨vreg_of h hm, inR_iff.2 (by rw [Int.toNat_natCast]; omega)⟩

theorem c59 (w t : Int) (σ : St) (b : Nat) (x : Blk) (hb : σ.get b = some x) (hx : x.cells = [.int .i64 w, .int .i64 t]) : callI TT 59 [.ptr b 0] σ = some (.bool (vreg w t), σ) := by
  have hcp : cellsAt σ (.ptr b 0) 1 = some [.int .i64 w] := by simp [cellsAt, hb, hx, getCells, takeN, dropN]
  have hcp1 : cellsAt σ (.ptr b 1) 1 = some [.int .i64 t] := by simp [cellsAt, hb, hx, getCells, takeN, dropN]
  have hi := c110 w 0 16 σ
  rw [cI_0 fn59 rfl md59, fi59]
  cases h1 : inR w 0 16 with
  | false =>
    rw [h1] at hi
    simp [xI_seq, xI_region, xI_ret, regA, regOps, runOps, opStep, wantedA, opA, evo, evos, calleeA, lk, nif_eq, putE, paramsE, valS, val2, keepE, restrict, finA, resA, binA, binInt, ofConst, ofConst1, loadA, TK.isAgg, asVar, unA, builtinA, lenOpA, lenA, ileb_cast, ileb_eq, ieqb_dec, indexAddrA, inB_dec, evPairs, storeA, AV.cellsOf, pairsOf, xI_nil, binBool, gcE, evOpt, tagZ, xI_block, xI_loopH, xI_condM, xI_exitM, xI_skip, xI_blk, exitA, ty2, ty27, runTr, pairsOk, pairOk, lstAt, lastOf, sameVal, AV.eqv, eqvs, eqvs_ints, regOps, blt_dec, cond_true, cond_false, fieldAddrA, ty2, ty27, hcp, hcp1, hi]
    simp [vreg, h1]
  | true =>
    rw [h1] at hi
    have h1' := inR_iff.1 h1
    obtain ⟨k, rfl⟩ : ∃ k : Nat, w = k := ⟨w.toNat, by omega⟩
    have hc := c111 k (by omega) t σ
    simp [xI_seq, xI_region, xI_ret, regA, regOps, runOps, opStep, wantedA, opA, evo, evos, calleeA, lk, nif_eq, putE, paramsE, valS, val2, keepE, restrict, finA, resA, binA, binInt, ofConst, ofConst1, loadA, TK.isAgg, asVar, unA, builtinA, lenOpA, lenA, ileb_cast, ileb_eq, ieqb_dec, indexAddrA, inB_dec, evPairs, storeA, AV.cellsOf, pairsOf, xI_nil, binBool, gcE, evOpt, tagZ, xI_block, xI_loopH, xI_condM, xI_exitM, xI_skip, xI_blk, exitA, ty2, ty27, runTr, pairsOk, pairOk, lstAt, lastOf, sameVal, AV.eqv, eqvs, eqvs_ints, regOps, blt_dec, cond_true, cond_false, fieldAddrA, ty2, ty27, hcp, hcp1, hi, hc]
    simp [vreg, h1]

theorem v62 (w t : Int) : FnV TT 62 [.agg [.int .i64 w, .int .i64 t]] (.bool (vreg w t)) := by
  refine FnV.mk fn62 rfl md62 ?_ (fun _ => rfl) rfl
  obtain ⟨σ, hσ⟩ : ∃ σ, (⟨[], 0⟩ : St).push ⟨[.int .i64 w, .int .i64 t], 2, false⟩ = σ := ⟨_, rfl⟩
  have hcp : cellsAt σ (.ptr 0 0) 1 = some [.int .i64 w] := by subst hσ; rfl
  have hcp1 : cellsAt σ (.ptr 0 1) 1 = some [.int .i64 t] := by subst hσ; rfl
  have hi := c69 w 0 16 σ
  rw [fi62]
  cases h1 : inR w 0 16 with
  | false =>
    rw [h1] at hi
    simp [xI_seq, xI_region, xI_ret, regA, regOps, runOps, opStep, wantedA, opA, evo, evos, calleeA, lk, nif_eq, putE, paramsE, valS, val2, keepE, restrict, finA, resA, binA, binInt, ofConst, ofConst1, loadA, TK.isAgg, asVar, unA, builtinA, lenOpA, lenA, ileb_cast, ileb_eq, ieqb_dec, indexAddrA, inB_dec, evPairs, storeA, AV.cellsOf, pairsOf, xI_nil, binBool, gcE, evOpt, tagZ, xI_block, xI_loopH, xI_condM, xI_exitM, xI_skip, xI_blk, exitA, ty2, ty27, runTr, pairsOk, pairOk, lstAt, lastOf, sameVal, AV.eqv, eqvs, eqvs_ints, regOps, blt_dec, cond_true, cond_false, fieldAddrA, allOne, AV.one, n_push, ty2, ty27, hσ, hcp, hcp1, hi]
    simp [vreg, h1]
  | true =>
    rw [h1] at hi
    have h1' := inR_iff.1 h1
    obtain ⟨k, rfl⟩ : ∃ k : Nat, w = k := ⟨w.toNat, by omega⟩
    have e2 := sh_1 (b := k) (by omega)
    have e3 := pw_dec (k := k) (by omega)
    have hc := c69 t 0 (((pw k : Nat) : Int) - 1) σ
    simp [xI_seq, xI_region, xI_ret, regA, regOps, runOps, opStep, wantedA, opA, evo, evos, calleeA, lk, nif_eq, putE, paramsE, valS, val2, keepE, restrict, finA, resA, binA, binInt, ofConst, ofConst1, loadA, TK.isAgg, asVar, unA, builtinA, lenOpA, lenA, ileb_cast, ileb_eq, ieqb_dec, indexAddrA, inB_dec, evPairs, storeA, AV.cellsOf, pairsOf, xI_nil, binBool, gcE, evOpt, tagZ, xI_block, xI_loopH, xI_condM, xI_exitM, xI_skip, xI_blk, exitA, ty2, ty27, runTr, pairsOk, pairOk, lstAt, lastOf, sameVal, AV.eqv, eqvs, eqvs_ints, regOps, blt_dec, cond_true, cond_false, fieldAddrA, allOne, AV.one, n_push, ty2, ty27, hσ, hcp, hcp1, hi, hc, e2, e3]
    simp [vreg, h1]
/-- The state after a step of a register, and the bit that it outputs. -/
def rnext (w t n : Nat) : Nat := if w = 0 then 0 else orN (shrN n 1) (shlN (par (andN t n)) (w - 1))
def rbit (w n : Nat) : Nat := if w = 0 then 0 else modN n 2
theorem rbit_lt (w n : Nat) : rbit w n < 2 := by
  unfold rbit
  split
  · decide
  · exact Nat.mod_lt _ (by decide)
theorem rnext_lt {w t n : Nat} (hn : n < 2 ^ w) : rnext w t n < 2 ^ w := by
  unfold rnext
  split
  · exact Nat.two_pow_pos _
  · rename_i h
    obtain ⟨k, rfl⟩ : ∃ k, w = k + 1 := ⟨w - 1, by omega⟩
    have h1 := par_lt (andN t n)
    have h2 := Nat.two_pow_pos k
    have h3 : par (andN t n) * 2 ^ k ≤ 1 * 2 ^ k := Nat.mul_le_mul_right _ (by omega)
    have h4 : 2 ^ (k + 1) = 2 * 2 ^ k := by rw [Nat.pow_succ]; omega
    refine Nat.or_lt_two_pow ?_ ?_
    · show n / 2 ^ 1 < _; omega
    · show par (andN t n) * 2 ^ (k + 1 - 1) < _
      rw [Nat.add_sub_cancel]; omega
/-- The first bits that are output, and the state behind them. -/
def outR (w t : Nat) : Nat → Nat → List UInt8
  | 0, _ => []
  | m + 1, n => bb (rbit w n) :: outR w t m (rnext w t n)
def endR (w t : Nat) : Nat → Nat → Nat
  | 0, n => n
  | m + 1, n => endR w t m (rnext w t n)
theorem outR_length (w t : Nat) : ∀ m n, (outR w t m n).length = m
  | 0, _ => rfl
  | m + 1, n => by simp [outR, outR_length w t m]

theorem v114 (w t n : Nat) (hw : w ≤ 16) (ht : t < 65536) (hn : n < 65536) : FnV TT 114 [.agg [.int .i64 w, .int .i64 t], .int .i64 n] (.tup [.int .i64 (rnext w t n : Nat), .int .i64 (rbit w n : Nat)]) := by
  refine FnV.mk fn114 rfl md114 ⟨(⟨[], 0⟩ : St).push ⟨[.int .i64 w, .int .i64 t], 2, false⟩, ?_⟩ (fun _ => rfl) rfl
  obtain ⟨σ, hσ⟩ : ∃ σ, (⟨[], 0⟩ : St).push ⟨[.int .i64 w, .int .i64 t], 2, false⟩ = σ := ⟨_, rfl⟩
  have hcp : cellsAt σ (.ptr 0 0) 1 = some [.int .i64 w] := by subst hσ; rfl
  have hcp1 : cellsAt σ (.ptr 0 1) 1 = some [.int .i64 t] := by subst hσ; rfl
  rw [fi114, hσ]
  by_cases hw0 : w = 0
  · subst hw0
    simp only [show ((0 : Nat) : Int) = 0 from rfl] at hσ hcp ⊢
    simp [xI_seq, xI_region, xI_ret, regA, regOps, runOps, opStep, wantedA, opA, evo, evos, calleeA, lk, nif_eq, putE, paramsE, valS, val2, keepE, restrict, finA, resA, binA, binInt, ofConst, ofConst1, loadA, TK.isAgg, asVar, unA, builtinA, lenOpA, lenA, ileb_cast, ileb_eq, ieqb_dec, indexAddrA, inB_dec, evPairs, storeA, AV.cellsOf, pairsOf, xI_nil, binBool, gcE, evOpt, tagZ, xI_block, xI_loopH, xI_condM, xI_exitM, xI_skip, xI_blk, exitA, ty2, ty27, runTr, pairsOk, pairOk, lstAt, lastOf, sameVal, AV.eqv, eqvs, eqvs_ints, regOps, blt_dec, cond_true, cond_false, fieldAddrA, allOne, AV.one, n_push, ty2, ty27, hσ, hcp, hcp1]
    simp [rnext, rbit]
  have hw1 : ¬ (w : Int) = 0 := by omega
  have a1 : shrA (n : Int) (min 1 IntKind.i64.bits) = ((shrN n 1 : Nat) : Int) := rfl
  have a2 : bitsA .and .i64 (t : Int) (n : Int) = some (.int .i64 ((andN t n : Nat) : Int)) := n_and (by omega) (by omega)
  have hle : andN t n ≤ t := Nat.and_le_left
  have hpl := par_lt (andN t n)
  have h16 : 2 ^ (w - 1) ≤ 2 ^ 15 := Nat.pow_le_pow_right (by decide) (by omega)
  have a4 : wrapA .i64 ((w : Int) - 1) = ((subN w 1 : Nat) : Int) := by
    rw [wrapA_id (by omega) (by omega)]; show (w : Int) - 1 = ((w - 1 : Nat) : Int); omega
  have hm : par (andN t n) * 2 ^ (w - 1) ≤ 1 * 2 ^ (w - 1) := Nat.mul_le_mul_right _ (by omega)
  have a5 : wrapA .i64 (shlA ((par (andN t n) : Nat) : Int) (min (subN w 1) IntKind.i64.bits)) = ((shlN (par (andN t n)) (subN w 1) : Nat) : Int) := sh_l (by show w - 1 ≤ 64; omega) (by show par (andN t n) * 2 ^ (w - 1) ≤ _; omega)
  have a6 : bitsA .or .i64 ((shrN n 1 : Nat) : Int) ((shlN (par (andN t n)) (subN w 1) : Nat) : Int) = some (.int .i64 ((orN (shrN n 1) (shlN (par (andN t n)) (subN w 1)) : Nat) : Int)) := n_or (by show n / 2 ^ 1 ≤ _; omega) (by show par (andN t n) * 2 ^ (w - 1) ≤ _; omega)
  have a7 := n_and1 (a := n) (by omega)
  have a8 : wrapA .u64 ((subN w 1 : Nat) : Int) = ((subN w 1 : Nat) : Int) := n_wrapu (by show w - 1 ≤ _; omega)
  have a3 := c126 (andN t n) (by omega) σ
  have e1 : rnext w t n = orN (shrN n 1) (shlN (par (andN t n)) (subN w 1)) := by rw [rnext, if_neg hw0]; rfl
  have e2 : rbit w n = modN n 2 := by rw [rbit, if_neg hw0]
  rw [e1, e2]
  simp [xI_seq, xI_region, xI_ret, regA, regOps, runOps, opStep, wantedA, opA, evo, evos, calleeA, lk, nif_eq, putE, paramsE, valS, val2, keepE, restrict, finA, resA, binA, binInt, ofConst, ofConst1, loadA, TK.isAgg, asVar, unA, builtinA, lenOpA, lenA, ileb_cast, ileb_eq, ieqb_dec, indexAddrA, inB_dec, evPairs, storeA, AV.cellsOf, pairsOf, xI_nil, binBool, gcE, evOpt, tagZ, xI_block, xI_loopH, xI_condM, xI_exitM, xI_skip, xI_blk, exitA, ty2, ty27, runTr, pairsOk, pairOk, lstAt, lastOf, sameVal, AV.eqv, eqvs, eqvs_ints, regOps, blt_dec, cond_true, cond_false, fieldAddrA, allOne, AV.one, n_push, ty2, ty27, hσ, hcp, hcp1, hw1, hw0, a1, a2, a3, a4, a5, a6, a7]
theorem c114 (w t n : Nat) (hw : w ≤ 16) (ht : t < 65536) (hn : n < 65536) (σ : St) : callI TT 114 [.agg [.int .i64 w, .int .i64 t], .int .i64 n] σ = some (.tup [.int .i64 (rnext w t n : Nat), .int .i64 (rbit w n : Nat)], σ) := v114 w t n hw ht hn σ _ rfl

theorem c61 (w t n : Nat) (hw : w ≤ 16) (ht : t < 65536) (hn : n < 65536) (σ : St) (b : Nat) (x : Blk) (hb : σ.get b = some x) (hx : x.cells = [.int .i64 w, .int .i64 t]) : callI TT 61 [.ptr b 0, .int .i64 n] σ = some (.tup [.int .i64 (rnext w t n : Nat), .int .i64 (rbit w n : Nat)], σ) := by
  have hcp : cellsAt σ (.ptr b 0) 1 = some [.int .i64 w] := by simp [cellsAt, hb, hx, getCells, takeN, dropN]
  have hcp1 : cellsAt σ (.ptr b 1) 1 = some [.int .i64 t] := by simp [cellsAt, hb, hx, getCells, takeN, dropN]
  rw [cI_0 fn61 rfl md61, fi61]
  by_cases hw0 : w = 0
  · subst hw0
    simp [xI_seq, xI_region, xI_ret, regA, regOps, runOps, opStep, wantedA, opA, evo, evos, calleeA, lk, nif_eq, putE, paramsE, valS, val2, keepE, restrict, finA, resA, binA, binInt, ofConst, ofConst1, loadA, TK.isAgg, asVar, unA, builtinA, lenOpA, lenA, ileb_cast, ileb_eq, ieqb_dec, indexAddrA, inB_dec, evPairs, storeA, AV.cellsOf, pairsOf, xI_nil, binBool, gcE, evOpt, tagZ, xI_block, xI_loopH, xI_condM, xI_exitM, xI_skip, xI_blk, exitA, ty2, ty27, ty36, runTr, pairsOk, pairOk, lstAt, lastOf, sameVal, AV.eqv, eqvs, eqvs_ints, regOps, blt_dec, cond_true, cond_false, fieldAddrA, ty2, ty27, hcp, hcp1]
    simp [rnext, rbit]
  have hw1 : ¬ (w : Int) = 0 := by omega
  have a1 : shrA (n : Int) (min 1 IntKind.i64.bits) = ((shrN n 1 : Nat) : Int) := rfl
  have a2 : bitsA .and .i64 (n : Int) (t : Int) = some (.int .i64 ((andN n t : Nat) : Int)) := n_and (by omega) (by omega)
  have hle : andN n t ≤ n := Nat.and_le_left
  have hpl := par_lt (andN n t)
  have h16 : 2 ^ (w - 1) ≤ 2 ^ 15 := Nat.pow_le_pow_right (by decide) (by omega)
  have a4 : wrapA .i64 ((w : Int) - 1) = ((subN w 1 : Nat) : Int) := by
    rw [wrapA_id (by omega) (by omega)]; show (w : Int) - 1 = ((w - 1 : Nat) : Int); omega
  have hm : par (andN n t) * 2 ^ (w - 1) ≤ 1 * 2 ^ (w - 1) := Nat.mul_le_mul_right _ (by omega)
  have a5 : wrapA .i64 (shlA ((par (andN n t) : Nat) : Int) (min (subN w 1) IntKind.i64.bits)) = ((shlN (par (andN n t)) (subN w 1) : Nat) : Int) := sh_l (by show w - 1 ≤ 64; omega) (by show par (andN n t) * 2 ^ (w - 1) ≤ _; omega)
  have a6 : bitsA .or .i64 ((shrN n 1 : Nat) : Int) ((shlN (par (andN n t)) (subN w 1) : Nat) : Int) = some (.int .i64 ((orN (shrN n 1) (shlN (par (andN n t)) (subN w 1)) : Nat) : Int)) := n_or (by show n / 2 ^ 1 ≤ _; omega) (by show par (andN n t) * 2 ^ (w - 1) ≤ _; omega)
  have a7 := n_and1 (a := n) (by omega)
  have a8 : wrapA .u64 ((subN w 1 : Nat) : Int) = ((subN w 1 : Nat) : Int) := n_wrapu (by show w - 1 ≤ _; omega)
  have a3 : callI TT 112 [.int .i64 ((andN n t : Nat) : Int)] σ = some (.int .i64 (par (andN n t) : Nat), σ) := v112 (andN n t) (Nat.lt_of_le_of_lt hle (Nat.lt_trans hn (by decide))) σ _ rfl
  have hcm : andN t n = andN n t := Nat.and_comm t n
  have e1 : rnext w t n = orN (shrN n 1) (shlN (par (andN n t)) (subN w 1)) := by rw [rnext, if_neg hw0, hcm]; rfl
  have e2 : rbit w n = modN n 2 := by rw [rbit, if_neg hw0]
  rw [e1, e2]
  simp [xI_seq, xI_region, xI_ret, regA, regOps, runOps, opStep, wantedA, opA, evo, evos, calleeA, lk, nif_eq, putE, paramsE, valS, val2, keepE, restrict, finA, resA, binA, binInt, ofConst, ofConst1, loadA, TK.isAgg, asVar, unA, builtinA, lenOpA, lenA, ileb_cast, ileb_eq, ieqb_dec, indexAddrA, inB_dec, evPairs, storeA, AV.cellsOf, pairsOf, xI_nil, binBool, gcE, evOpt, tagZ, xI_block, xI_loopH, xI_condM, xI_exitM, xI_skip, xI_blk, exitA, ty2, ty27, ty36, runTr, pairsOk, pairOk, lstAt, lastOf, sameVal, AV.eqv, eqvs, eqvs_ints, regOps, blt_dec, cond_true, cond_false, fieldAddrA, ty2, ty27, ty36, convA, hcp, hcp1, hw1, hw0, a1, a2, a3, a4, a5, a6, a7, a8]

end Go.Proofs.YthkdbkjkccogfaaDoor
