/- Contracts: words that become others, by the reference. Nothing is claimed here; no condition. -/
import Derived.Test.YthkdbkjkccogfaaXh
namespace Go.Proofs.Ythkdbkjkccogfaa
open Go Go.Abs
set_option linter.unusedSimpArgs false
set_option linter.unusedVariables false
open Go.Wd
theorem and_full {x : Nat} (h : x ≤ 65535) : andN x 65535 = x := by
  have := Nat.and_two_pow_sub_one_eq_mod x 16
  show x &&& 65535 = x
  rw [show 65535 = 2 ^ 16 - 1 from rfl, this, Nat.mod_eq_of_lt (by omega)]
theorem and_and {x m : Nat} (h : m ≤ 65535) : andN (andN x 65535) m = andN x m := by
  show (x &&& 65535) &&& m = x &&& m
  rw [Nat.and_assoc, Nat.and_comm 65535 m]
  have : m &&& 65535 = m := and_full h
  rw [this]
theorem v34d (y k : Nat) (hy : y ≤ 65535) (hk : k ≤ 16) (h1 : 1 ≤ k) : FnV TT 34 [.int .i64 y, .int .i64 (-(k : Int)), .int .i64 16] (.int .i64 (shrN y k : Nat)) := by
  refine FnV.mk fn34 rfl md34 ⟨⟨[], 0⟩, ?_⟩ (fun _ => rfl) rfl
  have s1 := sh_r (a := y) (b := k) (by omega)
  have s2 : wrapA .i64 (-(-(k : Int))) = (k : Int) := by rw [wrapA_id (by omega) (by omega)]; omega
  have s2' : wrapA .i64 (k : Int) = (k : Int) := wrapA_id (by omega) (by omega)
  have s3 := n_wrapu (a := k) (by omega)
  have s4 : -(k : Int) < 0 := by omega
  have s5 : (0 : Int) < (k : Int) := by omega
  have s6 : 0 < k := by omega
  have s7 : ¬ k = 0 := by omega
  rw [fi34]
  simp [xI_seq, xI_region, xI_ret, regA, regOps, runOps, opStep, wantedA, opA, evo, evos, calleeA, lk, nif_eq, putE, paramsE, valS, val2, keepE, restrict, finA, resA, binA, binInt, ofConst, ofConst1, loadA, TK.isAgg, asVar, unA, builtinA, lenOpA, lenA, ileb_cast, ileb_eq, ieqb_dec, indexAddrA, inB_dec, evPairs, storeA, AV.cellsOf, pairsOf, xI_nil, binBool, gcE, evOpt, tagZ, xI_block, xI_loopH, xI_condM, xI_exitM, xI_skip, xI_blk, exitA, ty2, ty86, s1, s2, s2', s3, s4, s5, s6, s7, convA]
theorem v34u (y k : Nat) (hy : y ≤ 65535) (hk : k ≤ 16) : FnV TT 34 [.int .i64 y, .int .i64 k, .int .i64 16] (.int .i64 (andN (shlN y k) 65535 : Nat)) := by
  refine FnV.mk fn34 rfl md34 ⟨⟨[], 0⟩, ?_⟩ (fun _ => rfl) rfl
  have lm : y * 2 ^ k ≤ 65535 * 65536 := Nat.mul_le_mul hy (Nat.pow_le_pow_right (by decide) hk)
  have s1 := sh_l (a := y) (b := k) (by omega) (by omega)
  have s2 := n_and (a := shlN y k) (b := 65535) (by show y * 2 ^ k ≤ _; omega) (by omega)
  have s3 := n_wrapu (a := k) (by omega)
  have s4 : ¬ ((k : Int) < 0) := by omega
  have s5 : wrapA .u64 (16 : Int) = 16 := by decide
  have s6 : wrapA .i64 (shlA (1 : Int) (min 16 IntKind.i64.bits)) = 65536 := by decide
  have s7 : wrapA .i64 (65536 - 1 : Int) = 65535 := by decide
  have s8 : wrapA .i64 (65535 : Int) = 65535 := by decide
  have s9 : wrapA .i64 (shlA (1 : Int) 16) = 65536 := by decide
  simp only [show ((65535 : Nat) : Int) = 65535 from rfl] at s2
  rw [fi34]
  simp [xI_seq, xI_region, xI_ret, regA, regOps, runOps, opStep, wantedA, opA, evo, evos, calleeA, lk, nif_eq, putE, paramsE, valS, val2, keepE, restrict, finA, resA, binA, binInt, ofConst, ofConst1, loadA, TK.isAgg, asVar, unA, builtinA, lenOpA, lenA, ileb_cast, ileb_eq, ieqb_dec, indexAddrA, inB_dec, evPairs, storeA, AV.cellsOf, pairsOf, xI_nil, binBool, gcE, evOpt, tagZ, xI_block, xI_loopH, xI_condM, xI_exitM, xI_skip, xI_blk, exitA, ty2, ty86, s1, s2, s3, s4, s5, s6, s7, s8, s9, convA]

noncomputable def b20 : Code := Try.f20.body.getD .skip
noncomputable def B20_0 : Code := (bodyC (bodyC (sndC (fstC (sndC (sndC b20))))))
noncomputable def K20_0 : List It := .lp B20_0 :: .blk 0 :: .code (sndC (sndC (sndC b20))) :: []
theorem xl20_0 {fi : FI} {env : Env} {σ : St} : exI TT fi K20_0 env σ = exI TT fi (.code B20_0 :: K20_0) env σ := by unfold K20_0; exact xI_lp
noncomputable def R20_0_0 : List It := .code (sndC (sndC (sndC b20))) :: []
theorem eK20_0_0 : exitA 0 K20_0 = some R20_0_0 := rfl
theorem l20 (by_ mask : Int) (mv sv : Nat → Nat) (σ : St) (hc : ∀ y : Nat, y ≤ 65535 → callI TT 34 [.int .i64 y, .int .i64 by_, .int .i64 16] σ = some (.int .i64 (sv y : Nat), σ)) (hm : ∀ y, y ≤ 65535 → bitsA .and .i64 (sv y : Nat) mask = some (.int .i64 (mv y : Nat))) (h16 : ∀ y, y ≤ 65535 → mv y ≤ 65535)
    (z : Nat) (hz : z ≤ 65535) : ∀ m k : Nat, k + m = 16 →
    exI TT (FI.of Try.f20 (TT.an 20)) K20_0 [(0, .int .i64 z), (1, .int .i64 by_), (2, .int .i64 mask), (7, .int .i64 (unrd mv z k : Nat)), (8, .int .i64 k)] σ = some (.int .i64 (undo mv z : Nat), σ) := by
  intro m
  induction m with
  | zero =>
    intro k hk
    obtain rfl : k = 16 := by omega
    rw [show undo mv z = unrd mv z 16 from rfl]
    generalize unrd mv z 16 = u at *
    rw [fi20]
    rw [xl20_0]
    simp only [B20_0, b20, Try.f20, Option.getD, fstC, sndC, bodyC, thnC, elsC]
    simp [xI_seq, xI_region, xI_ret, regA, regOps, runOps, opStep, wantedA, opA, evo, evos, calleeA, lk, nif_eq, putE, paramsE, valS, val2, keepE, restrict, finA, resA, binA, binInt, ofConst, ofConst1, loadA, TK.isAgg, asVar, unA, builtinA, lenOpA, lenA, ileb_cast, ileb_eq, ieqb_dec, indexAddrA, inB_dec, evPairs, storeA, AV.cellsOf, pairsOf, xI_nil, binBool, gcE, evOpt, tagZ, xI_block, xI_loopH, xI_condM, xI_exitM, xI_skip, xI_blk, exitA, ty2, ty3, eK20_0_0]
    simp only [R20_0_0, b20, Try.f20, Option.getD, fstC, sndC, bodyC, thnC, elsC]
    simp [xI_seq, xI_region, xI_ret, regA, regOps, runOps, opStep, wantedA, opA, evo, evos, calleeA, lk, nif_eq, putE, paramsE, valS, val2, keepE, restrict, finA, resA, binA, binInt, ofConst, ofConst1, loadA, TK.isAgg, asVar, unA, builtinA, lenOpA, lenA, ileb_cast, ileb_eq, ieqb_dec, indexAddrA, inB_dec, evPairs, storeA, AV.cellsOf, pairsOf, xI_nil, binBool, gcE, evOpt, tagZ, xI_block, xI_loopH, xI_condM, xI_exitM, xI_skip, xI_blk, exitA, ty2, ty3, eK20_0_0]
  | succ m ih =>
    intro k hk
    have h1 := ih (k + 1) (by omega)
    have hy := unrd_16 h16 hz k
    have c1 := hc _ hy
    have c2 := hm _ hy
    have c3 := n_xor (a := z) (b := mv (unrd mv z k)) (by omega) (by have := h16 _ hy; omega)
    rw [show unrd mv z (k + 1) = xorN z (mv (unrd mv z k)) from rfl] at h1
    have hlt : (k : Int) < 16 := by omega
    have hlt2 : k < 16 := by omega
    have hnle : ¬ 16 ≤ k := by omega
    have hw := wrapS (n := k) (by omega)
    rw [show ((k + 1 : Nat) : Int) = (k : Int) + 1 by omega] at h1
    generalize unrd mv z k = u at *
    rw [fi20] at h1 ⊢
    rw [xl20_0]
    simp only [B20_0, b20, Try.f20, Option.getD, fstC, sndC, bodyC, thnC, elsC]
    simp [xI_seq, xI_region, xI_ret, regA, regOps, runOps, opStep, wantedA, opA, evo, evos, calleeA, lk, nif_eq, putE, paramsE, valS, val2, keepE, restrict, finA, resA, binA, binInt, ofConst, ofConst1, loadA, TK.isAgg, asVar, unA, builtinA, lenOpA, lenA, ileb_cast, ileb_eq, ieqb_dec, indexAddrA, inB_dec, evPairs, storeA, AV.cellsOf, pairsOf, xI_nil, binBool, gcE, evOpt, tagZ, xI_block, xI_loopH, xI_condM, xI_exitM, xI_skip, xI_blk, exitA, ty2, ty3, eK20_0_0, c1, c2, c3, hlt, hlt2, hnle, hw]
    exact h1
theorem w20 (by_ mask : Int) (mv sv : Nat → Nat) (hc : ∀ (σ : St) (y : Nat), y ≤ 65535 → callI TT 34 [.int .i64 y, .int .i64 by_, .int .i64 16] σ = some (.int .i64 (sv y : Nat), σ)) (hm : ∀ y, y ≤ 65535 → bitsA .and .i64 (sv y : Nat) mask = some (.int .i64 (mv y : Nat))) (h16 : ∀ y, y ≤ 65535 → mv y ≤ 65535)
    (z : Nat) (hz : z ≤ 65535) : FnV TT 20 [.int .i64 z, .int .i64 by_, .int .i64 mask] (.int .i64 (undo mv z : Nat)) := by
  refine FnV.mk fn20 rfl md20 ⟨⟨[], 0⟩, ?_⟩ (fun _ => rfl) rfl
  have h1 := l20 by_ mask mv sv ⟨[], 0⟩ (hc _) hm h16 z hz 16 0 (by omega)
  rw [← h1, fi20]
  simp [xI_seq, xI_region, xI_ret, regA, regOps, runOps, opStep, wantedA, opA, evo, evos, calleeA, lk, nif_eq, putE, paramsE, valS, val2, keepE, restrict, finA, resA, binA, binInt, ofConst, ofConst1, loadA, TK.isAgg, asVar, unA, builtinA, lenOpA, lenA, ileb_cast, ileb_eq, ieqb_dec, indexAddrA, inB_dec, evPairs, storeA, AV.cellsOf, pairsOf, xI_nil, binBool, gcE, evOpt, tagZ, xI_block, xI_loopH, xI_condM, xI_exitM, xI_skip, xI_blk, exitA, ty2, ty3, eK20_0_0, unrd]
  rfl
theorem v20d (k : Nat) (hk : k ≤ 16) (h1 : 1 ≤ k) (z : Nat) (hz : z ≤ 65535) : FnV TT 20 [.int .i64 z, .int .i64 (-(k : Int)), .int .i64 65535] (.int .i64 (undo (fun y => shrN y k) z : Nat)) :=
  w20 _ _ (fun y => shrN y k) (fun y => shrN y k) (fun σ y hy => v34d y k hy hk h1 σ _ rfl) (fun y hy => by
    have h := n_and (a := shrN y k) (b := 65535) (by have := shr_16 (k := k) hy; omega) (by omega)
    rw [and_full (shr_16 hy)] at h
    exact h) (fun y hy => shr_16 hy) z hz
theorem v20u (k m : Nat) (hk : k ≤ 16) (hm : m ≤ 65535) (z : Nat) (hz : z ≤ 65535) : FnV TT 20 [.int .i64 z, .int .i64 k, .int .i64 m] (.int .i64 (undo (fun y => andN (shlN y k) m) z : Nat)) :=
  w20 _ _ (fun y => andN (shlN y k) m) (fun y => andN (shlN y k) 65535) (fun σ y hy => v34u y k hy hk σ _ rfl) (fun y hy => by
    have h := n_and (a := andN (shlN y k) 65535) (b := m) (by have : andN (shlN y k) 65535 ≤ 65535 := Nat.and_le_right
                                                              omega) (by omega)
    rw [and_and hm] at h
    exact h) (fun y hy => and_16 hm) z hz

theorem v6 (a b c d e f y : Int) : FnV TT 6 [.agg (tem a b c d e f), .int .i64 y] (.tup [.int .i64 (uwI a b c d e f y), .bool (vword a b c d e f y)]) := by
  refine FnV.mk fn6 rfl md6 ?_ (fun _ => rfl) rfl
  obtain ⟨σ, hσ⟩ : ∃ σ, (⟨[], 0⟩ : St).push ⟨tem a b c d e f, 6, false⟩ = σ := ⟨_, rfl⟩
  have hg : σ.get 0 = some ⟨tem a b c d e f, 6, false⟩ := by subst hσ; rfl
  have h := c18 a b c d e f σ 0 _ hg rfl
  have hi := c19 y σ
  rw [fi6]
  cases hv : vword a b c d e f y with
  | false =>
    rw [uwI_no hv]
    simp only [tem] at hσ ⊢
    cases h1 : vtem a b c d e f with
    | false =>
      rw [h1] at h
      simp [xI_seq, xI_region, xI_ret, regA, regOps, runOps, opStep, wantedA, opA, evo, evos, calleeA, lk, nif_eq, putE, paramsE, valS, val2, keepE, restrict, finA, resA, binA, binInt, ofConst, ofConst1, loadA, TK.isAgg, asVar, unA, builtinA, lenOpA, lenA, ileb_cast, ileb_eq, ieqb_dec, indexAddrA, inB_dec, evPairs, storeA, AV.cellsOf, pairsOf, xI_nil, binBool, gcE, evOpt, tagZ, xI_block, xI_loopH, xI_condM, xI_exitM, xI_skip, xI_blk, exitA, ty2, ty4, ty26, runTr, pairsOk, pairOk, lstAt, lastOf, sameVal, AV.eqv, eqvs, eqvs_ints, regOps, blt_dec, cond_true, cond_false, fieldAddrA, allOne, AV.one, n_push, ty2, ty26, hσ, h]
    | true =>
      rw [h1] at h
      have h2 : inR y 0 65535 = false := by simpa [vword, h1] using hv
      rw [h2] at hi
      simp [xI_seq, xI_region, xI_ret, regA, regOps, runOps, opStep, wantedA, opA, evo, evos, calleeA, lk, nif_eq, putE, paramsE, valS, val2, keepE, restrict, finA, resA, binA, binInt, ofConst, ofConst1, loadA, TK.isAgg, asVar, unA, builtinA, lenOpA, lenA, ileb_cast, ileb_eq, ieqb_dec, indexAddrA, inB_dec, evPairs, storeA, AV.cellsOf, pairsOf, xI_nil, binBool, gcE, evOpt, tagZ, xI_block, xI_loopH, xI_condM, xI_exitM, xI_skip, xI_blk, exitA, ty2, ty4, ty26, runTr, pairsOk, pairOk, lstAt, lastOf, sameVal, AV.eqv, eqvs, eqvs_ints, regOps, blt_dec, cond_true, cond_false, fieldAddrA, allOne, AV.one, n_push, ty2, ty26, hσ, h, hi]
  | true =>
    have hv2 := hv
    simp only [vword, Bool.and_eq_true] at hv2
    rw [hv2.1] at h
    rw [hv2.2] at hi
    clear hv2
    obtain ⟨a, b, c, d, e, f, y, rfl, rfl, rfl, rfl, rfl, rfl, rfl, a1, a2, b1, b2, c2, d1, d2, e2, f1, f2, y2⟩ := word_nat hv
    rw [uwI_yes hv]
    have hc0 : cellsAt σ (.ptr 0 0) 1 = some [.int .i64 a] := by subst hσ; rfl
    have hc1 : cellsAt σ (.ptr 0 1) 1 = some [.int .i64 b] := by subst hσ; rfl
    have hc2 : cellsAt σ (.ptr 0 2) 1 = some [.int .i64 c] := by subst hσ; rfl
    have hc3 : cellsAt σ (.ptr 0 3) 1 = some [.int .i64 d] := by subst hσ; rfl
    have hc4 : cellsAt σ (.ptr 0 4) 1 = some [.int .i64 e] := by subst hσ; rfl
    have hc5 : cellsAt σ (.ptr 0 5) 1 = some [.int .i64 f] := by subst hσ; rfl
    have na : wrapA .i64 (-(a : Int)) = -(a : Int) := wrapA_id (by omega) (by omega)
    have nf : wrapA .i64 (-(f : Int)) = -(f : Int) := wrapA_id (by omega) (by omega)
    have k1 : callI TT 20 [.int .i64 y, .int .i64 (-(f : Int)), .int .i64 65535] σ = some (.int .i64 (undo (fun y => shrN y f) y : Nat), σ) := v20d f f2 f1 y y2 σ _ rfl
    have l1 := undo_16 (mv := fun y => shrN y f) (fun y h => shr_16 h) y2
    have k2 : callI TT 20 [.int .i64 (undo (fun y => shrN y f) y : Nat), .int .i64 d, .int .i64 e] σ = some (.int .i64 (undo (fun y => andN (shlN y d) e) (undo (fun y => shrN y f) y) : Nat), σ) := v20u d e d2 e2 _ l1 σ _ rfl
    have l2 := undo_16 (mv := fun y => andN (shlN y d) e) (fun y h => and_16 e2) l1
    have k3 : callI TT 20 [.int .i64 (undo (fun y => andN (shlN y d) e) (undo (fun y => shrN y f) y) : Nat), .int .i64 b, .int .i64 c] σ = some (.int .i64 (undo (fun y => andN (shlN y b) c) (undo (fun y => andN (shlN y d) e) (undo (fun y => shrN y f) y)) : Nat), σ) := v20u b c b2 c2 _ l2 σ _ rfl
    have l3 := undo_16 (mv := fun y => andN (shlN y b) c) (fun y h => and_16 c2) l2
    have k4 : callI TT 20 [.int .i64 (undo (fun y => andN (shlN y b) c) (undo (fun y => andN (shlN y d) e) (undo (fun y => shrN y f) y)) : Nat), .int .i64 (-(a : Int)), .int .i64 65535] σ = some (.int .i64 (uw a b c d e f y : Nat), σ) := v20d a a2 a1 _ l3 σ _ rfl
    generalize undo (fun y => andN (shlN y b) c) (undo (fun y => andN (shlN y d) e) (undo (fun y => shrN y f) y)) = z3 at *
    generalize undo (fun y => andN (shlN y d) e) (undo (fun y => shrN y f) y) = z2 at *
    generalize undo (fun y => shrN y f) y = z1 at *
    generalize uw a b c d e f y = z4 at *
    simp only [tem] at hσ ⊢
    simp [xI_seq, xI_region, xI_ret, regA, regOps, runOps, opStep, wantedA, opA, evo, evos, calleeA, lk, nif_eq, putE, paramsE, valS, val2, keepE, restrict, finA, resA, binA, binInt, ofConst, ofConst1, loadA, TK.isAgg, asVar, unA, builtinA, lenOpA, lenA, ileb_cast, ileb_eq, ieqb_dec, indexAddrA, inB_dec, evPairs, storeA, AV.cellsOf, pairsOf, xI_nil, binBool, gcE, evOpt, tagZ, xI_block, xI_loopH, xI_condM, xI_exitM, xI_skip, xI_blk, exitA, ty2, ty4, ty26, runTr, pairsOk, pairOk, lstAt, lastOf, sameVal, AV.eqv, eqvs, eqvs_ints, regOps, blt_dec, cond_true, cond_false, fieldAddrA, allOne, AV.one, n_push, ty2, ty26, hσ, h, hi, hc0, hc1, hc2, hc3, hc4, hc5, na, nf, k1, k2, k3, k4]

end Go.Proofs.Ythkdbkjkccogfaa
