/- Contracts: drawn registers, places of agreement. Nothing is claimed here; no condition. -/
import Derived.Test.YthkdbkjkccogfaaDoorGe
import Derived.Test.YthkdbkjkccogfaaDoorGh
namespace Go.Proofs.YthkdbkjkccogfaaDoor
open Go Go.Abs
set_option linter.unusedSimpArgs false
set_option linter.unusedVariables false
open Go.Wd
theorem SRC.keep {σ σ' : St} {s : Nat} {l : List Nat} {k m : Nat} (h : SRC σ s l k m) (hn : σ.n ≤ σ'.n) (e : σ'.get s = σ.get s) : SRC σ' s l k m := ⟨Nat.lt_of_lt_of_le h.1 hn, by rw [e]; exact h.2.1, h.2.2⟩
def RGB (σ : St) (D : Nat) (a b : Int) : Prop := σ.get D = some ⟨[.int .i64 a, .int .i64 b], 2, false⟩
theorem RGB.keep {σ σ' : St} {D : Nat} {a b : Int} (h : RGB σ D a b) (e : σ'.get D = σ.get D) : RGB σ' D a b := by unfold RGB; rw [e]; exact h
theorem RGB.c0 {σ : St} {D : Nat} {a b : Int} (h : RGB σ D a b) : cellsAt σ (.ptr D 0) 1 = some [.int .i64 a] := by simp [cellsAt, (show σ.get D = _ from h), getCells, takeN, dropN]
theorem RGB.c1 {σ : St} {D : Nat} {a b : Int} (h : RGB σ D a b) : cellsAt σ (.ptr D 1) 1 = some [.int .i64 b] := by simp [cellsAt, (show σ.get D = _ from h), getCells, takeN, dropN]
theorem RGB.cc {σ : St} {D : Nat} {a b : Int} (h : RGB σ D a b) : cellsAt σ (.ptr D 0) 2 = some [.int .i64 a, .int .i64 b] := by simp [cellsAt, (show σ.get D = _ from h), getCells, takeN, dropN]
theorem RGB.s1 {σ : St} {D : Nat} {a b : Int} (h : RGB σ D a b) (y : Int) : ∃ σ', storeCellsA σ D 1 [.int .i64 y] = some σ' ∧ RGB σ' D a y ∧ σ'.n = σ.n ∧ ∀ d, d ≠ D → σ'.get d = σ.get d := by
  refine ⟨σ.set D ⟨[.int .i64 a, .int .i64 y], 2, false⟩, ?_, get_set_eq h, rfl, fun d hd => get_set_ne (fun e => hd e.symm)⟩
  simp [storeCellsA, (show σ.get D = _ from h), putN, overN, allOne, AV.one]
theorem RGB.s2 {σ : St} {D : Nat} {a b : Int} (h : RGB σ D a b) (x y : Int) : ∃ σ', storeCellsA σ D 0 [.int .i64 x, .int .i64 y] = some σ' ∧ RGB σ' D x y ∧ σ'.n = σ.n ∧ ∀ d, d ≠ D → σ'.get d = σ.get d := by
  refine ⟨σ.set D ⟨[.int .i64 x, .int .i64 y], 2, false⟩, ?_, get_set_eq h, rfl, fun d hd => get_set_ne (fun e => hd e.symm)⟩
  simp [storeCellsA, (show σ.get D = _ from h), putN, overN, allOne, AV.one]

set_option maxHeartbeats 1000000 in
theorem v19 (l : List Nat) (hl : ∀ x ∈ l, x < 256) (hll : l.length ≤ 1000) : ∃ w t : Nat, w ≤ 7 ∧ t < 2 ^ w ∧ FnV TT 19 [.lst l.length (byts l)] (.agg [.int .i64 w, .int .i64 t]) := by
  obtain ⟨σ1, e1⟩ : ∃ σ1, (⟨[], 0⟩ : St).push ⟨[.int .i64 0, .int .i64 0], 2, false⟩ = σ1 := ⟨_, rfl⟩
  have n1 : σ1.n = 1 := by subst e1; rfl
  have P1 : RGB σ1 0 0 0 := by subst e1; exact get_push_same
  obtain ⟨σ2, c2, S2, n2, o2⟩ := c65 l σ1
  rw [n1] at c2 S2
  have P2 := P1.keep (o2.2 0 (by omega))
  obtain ⟨w, k3, m3, σ3, c3, hw, S3, hk3, n3, u3⟩ := c66 l hl hll 0 0 (by decide) 8 (by decide) σ2 1 S2
  replace n3 : σ3.n = 2 := by omega
  have P3 := P2.keep (u3 0 (by decide))
  obtain ⟨σ4, e4⟩ : ∃ σ4, σ3.push ⟨[.int .i64 0, .int .i64 0], 2, false⟩ = σ4 := ⟨_, rfl⟩
  have n4 : σ4.n = 3 := by subst e4; show σ3.n + 1 = 3; omega
  have Q4 : RGB σ4 2 0 0 := by
    have h := get_push_same (σ := σ3) (x := ⟨[.int .i64 0, .int .i64 0], 2, false⟩)
    rw [n3] at h; subst e4; exact h
  obtain ⟨σ5, c5, Q5, n5, u5⟩ := Q4.s2 w 0
  have S5 := S3.keep (σ' := σ5) (by omega) ((u5 1 (by decide)).trans (by subst e4; exact get_push_lt (by omega)))
  have P5 := P3.keep (σ' := σ5) ((u5 0 (by decide)).trans (by subst e4; exact get_push_lt (by omega)))
  have q5 := Q5.c0
  have hw64 : wrapA .u64 (w : Int) = (w : Int) := (w_wrap .u64 (by simp only [topOf]; omega))
  have hp := pow_i w (by omega)
  have hN2 : 1 ≤ 2 ^ w := Nat.one_le_two_pow
  have hN7 : 2 ^ w ≤ 2 ^ 7 := Nat.pow_le_pow_right (by decide) (by omega)
  have hor : 0 < w → ∀ t, t < 2 ^ w → t ||| 1 < 2 ^ w := fun h0 t ht => Nat.or_lt_two_pow ht (Nat.lt_of_lt_of_le (show 1 < 2 ^ 1 by decide) (Nat.pow_le_pow_right (by decide) h0))
  obtain ⟨N, hN⟩ : ∃ N, 2 ^ w = N := ⟨_, rfl⟩
  rw [hN] at hp hN2 hN7 hor
  obtain ⟨t, k6, m6, σ6, c6, ht, S6, hk6, n6, u6⟩ := c66 l hl hll k3 m3 (by omega) N (by omega) σ5 1 S5
  have ht : t < N := by omega
  have P6 := P5.keep (u6 0 (by decide))
  have Q6 := Q5.keep (u6 2 (by decide))
  obtain ⟨σ7, c7, Q7, n7, u7⟩ := Q6.s1 t
  have S7 := S6.keep (σ' := σ7) (by omega) (u7 1 (by decide))
  have P7 := P6.keep (u7 0 (by decide))
  obtain ⟨q, k8, m8, σ8, c8, S8, hk8, n8, u8⟩ := c67 l hl hll k6 m6 (by omega) 2 (by decide) σ7 1 S7
  have P8 := P7.keep (u8 0 (by decide))
  have Q8 := Q7.keep (u8 2 (by decide))
  have q8 := Q8.c0
  have q9 := Q8.c1
  simp only [show ((8 : Nat) : Int) = 8 from rfl] at c3
  simp only [show ((2 : Nat) : Int) = 2 from rfl] at c8
  by_cases hc : q = true ∧ 0 < w
  · obtain ⟨rfl, hw0⟩ := hc
    have hw0' : (0 : Int) < (w : Int) := by omega
    have hw0n : ¬ w = 0 := by omega
    have hw1 : ¬ (w : Int) ≤ 0 := by omega
    have ho : bitsA .or .i64 (t : Int) 1 = some (.int .i64 ((t ||| 1 : Nat) : Int)) := w_or .i64 (a := t) (b := 1) (by simp only [topOf]; omega) (by decide)
    have hb := hor hw0 t ht
    generalize t ||| 1 = t2 at *
    obtain ⟨σ9, c9, Q9, n9, u9⟩ := Q8.s1 t2
    have P9 := P8.keep (u9 0 (by decide))
    obtain ⟨σA, cA, PA, nA, uA⟩ := P9.s2 w t2
    have g1 := Q9.cc
    have g2 := PA.cc
    refine ⟨w, t2, by omega, by rw [hN]; omega, FnV.mk fn19 rfl md19 ⟨σA, ?_⟩ (fun _ => rfl) rfl⟩
    rw [fi19]
    simp [xI_seq, xI_region, xI_ret, regA, regOps, runOps, opStep, wantedA, opA, evo, evos, calleeA, lk, nif_eq, putE, paramsE, valS, val2, keepE, restrict, finA, resA, binA, binInt, ofConst, ofConst1, loadA, TK.isAgg, asVar, unA, builtinA, lenOpA, lenA, ileb_cast, ileb_eq, ieqb_dec, indexAddrA, inB_dec, evPairs, storeA, AV.cellsOf, pairsOf, xI_nil, binBool, gcE, evOpt, tagZ, xI_block, xI_loopH, xI_condM, xI_exitM, xI_skip, xI_blk, exitA, ty2, ty27, ty36, runTr, pairsOk, pairOk, lstAt, lastOf, sameVal, AV.eqv, eqvs, eqvs_ints, regOps, blt_dec, cond_true, cond_false, fieldAddrA, allOne, AV.one, buildA, sizesOf, fillA, putCells, n_push, convA, ty36, ty2, ty27, e1, n1, c2, c3, n3, e4, c5, q5, hw64, hp, c6, c7, c8, q8, q9, hw0, hw0', hw0n, hw1, ho, c9, cA, g1, g2]

  · obtain ⟨σA, cA, PA, nA, uA⟩ := P8.s2 w t
    have g1 := Q8.cc
    have g2 := PA.cc
    cases q with
    | false =>
      refine ⟨w, t, by omega, by rw [hN]; omega, FnV.mk fn19 rfl md19 ⟨σA, ?_⟩ (fun _ => rfl) rfl⟩
      rw [fi19]
      simp [xI_seq, xI_region, xI_ret, regA, regOps, runOps, opStep, wantedA, opA, evo, evos, calleeA, lk, nif_eq, putE, paramsE, valS, val2, keepE, restrict, finA, resA, binA, binInt, ofConst, ofConst1, loadA, TK.isAgg, asVar, unA, builtinA, lenOpA, lenA, ileb_cast, ileb_eq, ieqb_dec, indexAddrA, inB_dec, evPairs, storeA, AV.cellsOf, pairsOf, xI_nil, binBool, gcE, evOpt, tagZ, xI_block, xI_loopH, xI_condM, xI_exitM, xI_skip, xI_blk, exitA, ty2, ty27, ty36, runTr, pairsOk, pairOk, lstAt, lastOf, sameVal, AV.eqv, eqvs, eqvs_ints, regOps, blt_dec, cond_true, cond_false, fieldAddrA, allOne, AV.one, buildA, sizesOf, fillA, putCells, n_push, convA, ty36, ty2, ty27, e1, n1, c2, c3, n3, e4, c5, q5, hw64, hp, c6, c7, c8, q8, q9, cA, g1, g2]

    | true =>
      have hw0 : w = 0 := by
        apply Decidable.byContradiction
        intro h; exact hc ⟨rfl, by omega⟩
      have hw1 : (w : Int) ≤ 0 := by omega
      have hw2 : ¬ (0 : Int) < (w : Int) := by omega
      have hw3 : ¬ 0 < w := by omega
      clear hc
      refine ⟨w, t, by omega, by rw [hN]; omega, FnV.mk fn19 rfl md19 ⟨σA, ?_⟩ (fun _ => rfl) rfl⟩
      rw [fi19]
      simp [xI_seq, xI_region, xI_ret, regA, regOps, runOps, opStep, wantedA, opA, evo, evos, calleeA, lk, nif_eq, putE, paramsE, valS, val2, keepE, restrict, finA, resA, binA, binInt, ofConst, ofConst1, loadA, TK.isAgg, asVar, unA, builtinA, lenOpA, lenA, ileb_cast, ileb_eq, ieqb_dec, indexAddrA, inB_dec, evPairs, storeA, AV.cellsOf, pairsOf, xI_nil, binBool, gcE, evOpt, tagZ, xI_block, xI_loopH, xI_condM, xI_exitM, xI_skip, xI_blk, exitA, ty2, ty27, ty36, runTr, pairsOk, pairOk, lstAt, lastOf, sameVal, AV.eqv, eqvs, eqvs_ints, regOps, blt_dec, cond_true, cond_false, fieldAddrA, allOne, AV.one, buildA, sizesOf, fillA, putCells, n_push, convA, ty36, ty2, ty27, e1, n1, c2, c3, n3, e4, c5, q5, hw64, hp, c6, c7, c8, q8, q9, hw1, hw2, hw3, cA, g1, g2]
      exact fun h => absurd hw0 h

end Go.Proofs.YthkdbkjkccogfaaDoor
