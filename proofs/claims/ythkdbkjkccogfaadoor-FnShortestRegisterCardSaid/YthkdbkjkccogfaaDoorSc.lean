/- Contracts behind the law of shortest registers, laid out of the texts of the same hand. Nothing is claimed here; no condition. -/
import Derived.Test.YthkdbkjkccogfaaDoorSb
set_option linter.unusedSimpArgs false
set_option linter.unusedVariables false
namespace Go.Proofs.YthkdbkjkccogfaaDoor
open Go Go.Abs
open Go.Wd
open Go.Wd
open Go.Wd
open Go.Wd
open Go.Wd
open Go.Wd
theorem outR_bits (w t : Nat) : ∀ m n, (outR w t m n).all isBit = true
  | 0, _ => rfl
  | m + 1, n => by
    rw [outR, List.all_cons, outR_bits w t m]
    rw [isBit_nat, bb_nat (rbit_lt w n)]
    have := rbit_lt w n
    generalize rbit w n = r at *
    have : r = 0 ∨ r = 1 := by omega
    rcases this with rfl | rfl <;> rfl
theorem bb_isBit {r : Nat} (h : r < 2) : isBit (bb r) = true := by
  have : r = 0 ∨ r = 1 := by omega
  rcases this with rfl | rfl <;> rfl
theorem Lst.congr {L : Nat} {s s' : Nat → Bool} {n : Nat} (h : Lst L s n) (e : ∀ i, i < n → s i = s' i) : Lst L s' n :=
  ⟨by obtain ⟨c, hc⟩ := h.1; exact ⟨c, hc.congr e⟩, fun K hK ⟨c, hc⟩ => h.2 K hK ⟨c, hc.congr fun i hi => (e i hi).symm⟩⟩
theorem bitf_take {l : List UInt8} {n i : Nat} (h : i < n) : bitf (l.take n) i = bitf l i := by
  rw [bitf, bitf, List.getElem?_take_of_lt h]
theorem bmL_take {l : List UInt8} {n : Nat} (h : n ≤ l.length) : Lst (bmL (l.take n)) (bitf l) n := by
  have := bmL_lst (l.take n)
  rw [List.length_take, Nat.min_eq_left h] at this
  exact Lst.congr this fun i hi => bitf_take hi
theorem bmL_nil : bmL [] = 0 := (bmL_lst []).uniq (lst_zero _)
/-- How the widths of beginnings grow. -/
theorem bmL_step {l : List UInt8} {i : Nat} (h : i < l.length) : bmL (l.take (i + 1)) = bmL (l.take i) ∨ (bmL (l.take i) < bmL (l.take (i + 1)) ∧ bmL (l.take (i + 1)) = i + 1 - bmL (l.take i)) :=
  lst_step (bmL_take (by omega)) (bmL_take (by omega))
/-- The least taps are taps. -/
theorem bmT_gen {l : List UInt8} (h64 : bmL l < 64) : bmT l < 2 ^ bmL l ∧ Gen (bmL l) (bmT l).testBit (bitf l) l.length := by
  obtain ⟨R, hR⟩ := adY h64
  have hT := bmT_eq h64 hR
  obtain ⟨_, _, _, hred, hsol⟩ := (addAll_can h64 (es := eqL l (bmL l)) eqL_lt).2 R hR
  obtain ⟨h1, h2, _⟩ := least_sol h64 hred
  rw [hT] at h1 h2
  have h3 := (hsol _).1 h1
  have h4 := (sol_gen (s := bitf l) (n := l.length) h64 (full_lt h2).1 (full_lt h2).2).1 h3
  refine ⟨h2, fun t ht => ?_⟩
  rw [h4 t ht]
  exact xs_congr _ (fun i hi => by rw [full_low hi])
/-- A register that starts with the first bits of a text that has its recurrence outputs the text. -/
theorem gen_out {l : List UInt8} (hb : l.all isBit = true) {w t : Nat} (hw : w ≤ 64) (hwl : w ≤ l.length) (ht : t < 2 ^ w) (hg : Gen w t.testBit (bitf l) l.length) : outR w t l.length (ofB w (bitf l)) = l := by
  have hS := ofB_lt (bitf l) w
  refine bits_ext (outR_bits _ _ _ _) hb (outR_length _ _ _ _) fun i hi => ?_
  rw [outR_length] at hi
  rw [bitf_out hi]
  refine gen_same (regS_gen hw ht hS l.length) hg (fun _ _ => rfl) (fun i hi _ => ?_) i hi
  rw [regS_first hS hi, ofB_testBit]; simp [hi]
/-- A register that outputs a text has its recurrence. -/
theorem out_gen {l : List UInt8} {w t n : Nat} (hw : w ≤ 64) (ht : t < 2 ^ w) (hn : n < 2 ^ w) (h : outR w t l.length n = l) : Gen w t.testBit (bitf l) l.length :=
  (regS_gen hw ht hn l.length).congr fun i hi => by
    have h1 := bitf_out (w := w) (t := t) (n := n) hi
    rw [h] at h1; exact h1.symm
/-- The widths of all beginnings. -/
noncomputable def wdL (l : List UInt8) : Nat → List Nat
  | 0 => []
  | n + 1 => wdL l n ++ [bmL (l.take (n + 1))]
theorem wdL_len (l : List UInt8) : ∀ n, (wdL l n).length = n
  | 0 => rfl
  | n + 1 => by simp [wdL, wdL_len l n]
theorem wdL_get (l : List UInt8) : ∀ n i, i < n → (wdL l n)[i]? = some (bmL (l.take (i + 1)))
  | n + 1, i, h => by
    rw [wdL]
    by_cases hi : i < n
    · rw [List.getElem?_append_left (by rw [wdL_len]; exact hi)]; exact wdL_get l n i hi
    · have : i = n := by omega
      subst this
      rw [List.getElem?_append_right (by rw [wdL_len]; exact Nat.le_refl _), wdL_len]; simp

noncomputable def b70 : Code := Tryd.f70.body.getD .skip
noncomputable def B70_0 : Code := (bodyC (bodyC (fstC (sndC (sndC (sndC (sndC b70)))))))
noncomputable def K70_0 : List It := .lp B70_0 :: .blk 0 :: .code (sndC (sndC (sndC (sndC (sndC b70))))) :: []
theorem xl70_0 {fi : FI} {env : Env} {σ : St} : exI TT fi K70_0 env σ = exI TT fi (.code B70_0 :: K70_0) env σ := by unfold K70_0; exact xI_lp
noncomputable def R70_0_0 : List It := .code (sndC (sndC (sndC (sndC (sndC b70))))) :: []
theorem eK70_0_0 : exitA 0 K70_0 = some R70_0_0 := rfl
theorem l70 (c : List Nat) (hc : ∀ x ∈ c, x < 256) (hcl : c.length ≤ 1000) (s : Nat) : ∀ (n k m : Nat) (σ : St) (b : Nat) (l : List UInt8), k + 2 * n ≤ 900000 → l.length + n ≤ 100000 → SRC σ s c k m → s ≠ b → BRow σ b l → l.all isBit = true →
    ∃ (σ' : St) (l' : List UInt8), exI TT (FI.of Tryd.f70 (TT.an 70)) K70_0 [(0, .ptr s 0), (5, .int .i64 n), (7, .sl b 0 l.length l.length)] σ = some (.str l', σ') ∧ l'.length = l.length + n ∧ l'.all isBit = true := by
  intro n
  induction n with
  | zero =>
    intro k m σ b l hk hl hS hsb hr hb
    have hs := toStr hr rfl
    refine ⟨σ, l, ?_, rfl, hb⟩
    rw [fi70]
    rw [xl70_0]
    simp only [B70_0, b70, Tryd.f70, Option.getD, fstC, sndC, bodyC, thnC, elsC]
    simp [xI_seq, xI_region, xI_ret, regA, regOps, runOps, opStep, wantedA, opA, evo, evos, calleeA, lk, nif_eq, putE, paramsE, valS, val2, keepE, restrict, finA, resA, binA, binInt, ofConst, ofConst1, loadA, TK.isAgg, asVar, unA, builtinA, lenOpA, lenA, ileb_cast, ileb_eq, ieqb_dec, indexAddrA, inB_dec, evPairs, storeA, AV.cellsOf, pairsOf, xI_nil, binBool, gcE, evOpt, tagZ, xI_block, xI_loopH, xI_condM, xI_exitM, xI_skip, xI_blk, exitA, ty2, ty5, ty9, ty27, ty32, ty36, eK70_0_0, runTr, pairsOk, pairOk, lstAt, lastOf, sameVal, AV.eqv, eqvs, eqvs_ints, regOps, blt_dec, cond_true, cond_false, fieldAddrA, allOne, AV.one, buildA, sizesOf, fillA, putCells, n_push, indexA, ty2, ty27, ty9, ty5, ty3, ty36]
    simp only [R70_0_0, b70, Tryd.f70, Option.getD, fstC, sndC, bodyC, thnC, elsC]
    simp [xI_seq, xI_region, xI_ret, regA, regOps, runOps, opStep, wantedA, opA, evo, evos, calleeA, lk, nif_eq, putE, paramsE, valS, val2, keepE, restrict, finA, resA, binA, binInt, ofConst, ofConst1, loadA, TK.isAgg, asVar, unA, builtinA, lenOpA, lenA, ileb_cast, ileb_eq, ieqb_dec, indexAddrA, inB_dec, evPairs, storeA, AV.cellsOf, pairsOf, xI_nil, binBool, gcE, evOpt, tagZ, xI_block, xI_loopH, xI_condM, xI_exitM, xI_skip, xI_blk, exitA, ty2, ty5, ty9, ty27, ty32, ty36, eK70_0_0, hs]
  | succ n ih =>
    intro k m σ b l hk hl hS hsb hr hb
    obtain ⟨r, k2, m2, σ2, c2, hr2, S2, hk2, n2, u2⟩ := c66 c hc hcl k m (by omega) 2 (by decide) σ s hS
    replace hr2 : r < 2 := by omega
    have hbn := hr.lt
    have hrow : BRow σ2 b l := by
      obtain ⟨e_, o_, h1, h2⟩ := hr
      first | exact ⟨e_, o_, (u2 b (fun e => hsb e.symm)).trans h1, by omega⟩ | exact ⟨e_, o_, (u2 b (fun e => hsb e.symm)).trans h1, by rw [n2]; exact h2⟩
    obtain ⟨σ3, a3, r3, n3, _, u3⟩ := bappend (x := bb r) ty32 ty5 hrow rfl (by omega)
    have hs2 := S2.1
    have S3 := S2.keep (σ' := σ3) (by omega) (u3 s hsb (by omega))
    obtain ⟨σ', l', h1, h2, h3⟩ := ih k2 m2 σ3 (σ2.n + 1) (l ++ [bb r]) (by omega) (by simp; omega) S3 (by omega) r3 (by simp [hb, bb_isBit hr2])
    refine ⟨σ', l', ?_, by rw [h2]; simp; omega, h3⟩
    have hc2 := bb_wrap hr2
    have hc3 : ∀ σ, convA TT σ 2 5 (.int .i64 (48 + (r : Int))) = some (.int .u8 ((bb r).toNat : Nat), σ) := bb_conv hr2
    have hw : wrapA .i64 ((n : Int) + 1 - 1) = (n : Int) := by rw [wrapA_id (by omega) (by omega)]; omega
    have hw9 : wrapA .i64 (n : Int) = (n : Int) := wrapA_id (by omega) (by omega)
    have hp : (0 : Int) < (n : Int) + 1 := by omega
    have hp2 : ¬ ((n : Int) + 1 ≤ 0) := by omega
    simp only [show ((2 : Nat) : Int) = 2 from rfl] at c2
    rw [show ((n + 1 : Nat) : Int) = (n : Int) + 1 by omega]
    simp only [List.length_append, List.length_singleton] at h1
    rw [fi70] at h1 ⊢
    rw [xl70_0]
    simp only [B70_0, b70, Tryd.f70, Option.getD, fstC, sndC, bodyC, thnC, elsC]
    simp [xI_seq, xI_region, xI_ret, regA, regOps, runOps, opStep, wantedA, opA, evo, evos, calleeA, lk, nif_eq, putE, paramsE, valS, val2, keepE, restrict, finA, resA, binA, binInt, ofConst, ofConst1, loadA, TK.isAgg, asVar, unA, builtinA, lenOpA, lenA, ileb_cast, ileb_eq, ieqb_dec, indexAddrA, inB_dec, evPairs, storeA, AV.cellsOf, pairsOf, xI_nil, binBool, gcE, evOpt, tagZ, xI_block, xI_loopH, xI_condM, xI_exitM, xI_skip, xI_blk, exitA, ty2, ty5, ty9, ty27, ty32, ty36, eK70_0_0, runTr, pairsOk, pairOk, lstAt, lastOf, sameVal, AV.eqv, eqvs, eqvs_ints, regOps, blt_dec, cond_true, cond_false, hp, hp2, hw, hw9, c2, hc2, hc3, bb1, a3]
    simpa using h1
set_option maxHeartbeats 1000000 in
theorem c70 (c : List Nat) (hc : ∀ x ∈ c, x < 256) (hcl : c.length ≤ 1000) (most : Nat) (hm : most ≤ 400) (k m : Nat) (hk : k ≤ 1000) (σ : St) (s : Nat) (hS : SRC σ s c k m) : ∃ (l : List UInt8) (σ' : St), callI TT 70 [.ptr s 0, .int .i64 most] σ = some (.str l, σ') ∧ l.length ≤ most ∧ l.all isBit = true := by
  obtain ⟨n, k1, m1, σ1, c1, hn, S1, hk1, n1, u1⟩ := c66 c hc hcl k m (by omega) (most + 1) (by omega) σ s hS
  replace hn : n ≤ most := by omega
  obtain ⟨q, k2, m2, σ2, c2, S2, hk2, n2, u2⟩ := c67 c hc hcl k1 m1 (by omega) 2 (by decide) σ1 s S1
  have hw1 : wrapA .i64 ((most : Int) + 1) = ((most + 1 : Nat) : Int) := by rw [wrapA_id (by omega) (by omega)]; omega
  simp only [show ((2 : Nat) : Int) = 2 from rfl] at c2
  cases q with
  | false =>
    have hs2 := S2.1
    obtain ⟨σ', l', h1, h2, h3⟩ := l70 c hc hcl s n k2 m2 (σ2.push ⟨intsOf [], 1, false⟩) σ2.n [] (by omega) (by simp; omega) (S2.keep (by simp [n_push]) (get_push_lt hs2)) (by omega) (BRow.push σ2 []) rfl
    refine ⟨l', σ', ?_, by rw [h2]; simp; omega, h3⟩
    rw [cI_0 fn70 rfl md70, fi70]
    rw [fi70] at h1
    simp only [List.length_nil, show ((0 : Nat) : Int) = 0 from rfl, Int.natCast_zero] at h1
    generalize most + 1 = mo at *
    simp [xI_seq, xI_region, xI_ret, regA, regOps, runOps, opStep, wantedA, opA, evo, evos, calleeA, lk, nif_eq, putE, paramsE, valS, val2, keepE, restrict, finA, resA, binA, binInt, ofConst, ofConst1, loadA, TK.isAgg, asVar, unA, builtinA, lenOpA, lenA, ileb_cast, ileb_eq, ieqb_dec, indexAddrA, inB_dec, evPairs, storeA, AV.cellsOf, pairsOf, xI_nil, binBool, gcE, evOpt, tagZ, xI_block, xI_loopH, xI_condM, xI_exitM, xI_skip, xI_blk, exitA, ty2, ty5, ty9, ty27, ty32, ty36, eK70_0_0, runTr, pairsOk, pairOk, lstAt, lastOf, sameVal, AV.eqv, eqvs, eqvs_ints, regOps, blt_dec, cond_true, cond_false, ty2, hw1, c1, c2, bb0]
    exact h1
  | true =>
    obtain ⟨w, k3, m3, σ3, c3, hw, S3, hk3, n3, u3⟩ := c66 c hc hcl k2 m2 (by omega) 6 (by decide) σ2 s S2
    replace hw : w ≤ 5 := by omega
    have hs3 := S3.1
    obtain ⟨σ4, e4⟩ : ∃ σ4, σ3.push ⟨[.int .i64 0, .int .i64 0], 2, false⟩ = σ4 := ⟨_, rfl⟩
    have n4 : σ4.n = σ3.n + 1 := by subst e4; rfl
    obtain ⟨D0, hD⟩ : ∃ D0, σ3.n = D0 := ⟨_, rfl⟩
    have Q4 : RGB σ4 D0 0 0 := by
      have h := get_push_same (σ := σ3) (x := ⟨[.int .i64 0, .int .i64 0], 2, false⟩)
      rw [hD] at h; subst e4; exact h
    obtain ⟨σ5, c5, Q5, n5, u5⟩ := Q4.s2 w 0
    have S5 := S3.keep (σ' := σ5) (by omega) ((u5 s (by omega)).trans (by subst e4; exact get_push_lt hs3))
    have q5 := Q5.c0
    have hw64 : wrapA .u64 (w : Int) = (w : Int) := (w_wrap .u64 (by simp only [topOf]; omega))
    have hp := pow_i w (by omega)
    have hN2 : 1 ≤ 2 ^ w := Nat.one_le_two_pow
    have hN7 : 2 ^ w ≤ 2 ^ 5 := Nat.pow_le_pow_right (by decide) hw
    obtain ⟨N, hN⟩ : ∃ N, 2 ^ w = N := ⟨_, rfl⟩
    rw [hN] at hp hN2 hN7
    obtain ⟨t, k6, m6, σ6, c6, ht, S6, hk6, n6, u6⟩ := c66 c hc hcl k3 m3 (by omega) N (by omega) σ5 s S5
    replace ht : t < N := by omega
    have Q6 := Q5.keep (u6 D0 (by omega))
    obtain ⟨σ7, c7, Q7, n7, u7⟩ := Q6.s1 t
    have S7 := S6.keep (σ' := σ7) (by omega) (u7 s (by omega))
    have q7 := Q7.c0
    obtain ⟨x, k8, m8, σ8, c8, hx, S8, hk8, n8, u8⟩ := c66 c hc hcl k6 m6 (by omega) N (by omega) σ7 s S7
    replace hx : x < N := by omega
    have Q8 := Q7.keep (u8 D0 (by omega))
    obtain ⟨σ9, c9, _⟩ := r117 w t n x (by omega) (by omega) (by omega) (by omega) D0 _ rfl σ8 Q8 (by omega)
    refine ⟨outR w t n x, σ9, ?_, by rw [outR_length]; omega, outR_bits _ _ _ _⟩
    rw [cI_0 fn70 rfl md70, fi70]
    generalize most + 1 = mo at *
    simp only [show ((6 : Nat) : Int) = 6 from rfl] at c3
    have convU : ∀ σ, convA TT σ 2 36 (.int .i64 (w : Int)) = some (.int .u64 (w : Int), σ) := fun σ => by simp [convA, ty2, ty36, hw64]
    simp [xI_seq, xI_region, xI_ret, regA, regOps, runOps, opStep, wantedA, opA, evo, evos, calleeA, lk, nif_eq, putE, paramsE, valS, val2, keepE, restrict, finA, resA, binA, binInt, ofConst, ofConst1, loadA, TK.isAgg, asVar, unA, builtinA, lenOpA, lenA, ileb_cast, ileb_eq, ieqb_dec, indexAddrA, inB_dec, evPairs, storeA, AV.cellsOf, pairsOf, xI_nil, binBool, gcE, evOpt, tagZ, xI_block, xI_loopH, xI_condM, xI_exitM, xI_skip, xI_blk, exitA, ty2, ty5, ty9, ty27, ty32, ty36, eK70_0_0, runTr, pairsOk, pairOk, lstAt, lastOf, sameVal, AV.eqv, eqvs, eqvs_ints, regOps, blt_dec, cond_true, cond_false, fieldAddrA, allOne, AV.one, buildA, sizesOf, fillA, putCells, n_push, indexA, ty2, ty27, ty9, ty5, ty3, ty36, hw1, c1, c2, c3, e4, hD, c5, q5, convU, hp, c6, c7, q7, c8, c9]
theorem v25 (c : List Nat) (hc : ∀ x ∈ c, x < 256) (hcl : c.length ≤ 1000) (most : Nat) (hm : most ≤ 400) : ∃ l : List UInt8, l.length ≤ most ∧ l.all isBit = true ∧ FnV TT 25 [.lst c.length (byts c), .int .i64 most] (.str l) := by
  obtain ⟨σ1, c1, S1, n1, o1⟩ := c65 c ⟨[], 0⟩
  obtain ⟨l, σ2, c2, h1, h2⟩ := c70 c hc hcl most hm 0 0 (by decide) σ1 0 S1
  refine ⟨l, h1, h2, FnV.mk fn25 rfl md25 ⟨σ2, ?_⟩ (fun _ => rfl) rfl⟩
  rw [fi25]
  simp [xI_seq, xI_region, xI_ret, regA, regOps, runOps, opStep, wantedA, opA, evo, evos, calleeA, lk, nif_eq, putE, paramsE, valS, val2, keepE, restrict, finA, resA, binA, binInt, ofConst, ofConst1, loadA, TK.isAgg, asVar, unA, builtinA, lenOpA, lenA, ileb_cast, ileb_eq, ieqb_dec, indexAddrA, inB_dec, evPairs, storeA, AV.cellsOf, pairsOf, xI_nil, binBool, gcE, evOpt, tagZ, xI_block, xI_loopH, xI_condM, xI_exitM, xI_skip, xI_blk, exitA, c1, c2]

noncomputable def b27 : Code := Tryd.f27.body.getD .skip
noncomputable def B27_0 : Code := (bodyC (bodyC (sndC (fstC (sndC (sndC (sndC b27)))))))
noncomputable def K27_0 : List It := .lp B27_0 :: .blk 0 :: .code (sndC (sndC (sndC (sndC b27)))) :: []
theorem xl27_0 {fi : FI} {env : Env} {σ : St} : exI TT fi K27_0 env σ = exI TT fi (.code B27_0 :: K27_0) env σ := by unfold K27_0; exact xI_lp
noncomputable def R27_0_0 : List It := .code (sndC (sndC (sndC (sndC b27)))) :: []
theorem eK27_0_0 : exitA 0 K27_0 = some R27_0_0 := rfl
theorem l27 (l : List UInt8) (hl : l.length ≤ 32) (hb : l.all isBit = true) : ∀ (m i : Nat) (σ : St) (b : Nat), i + m = l.length → Row σ b (nints (wdL l i)) →
    ∃ σ' b', exI TT (FI.of Tryd.f27 (TT.an 27)) K27_0 [(0, .str l), (4, .sl b 0 i i), (5, .int .i64 (i + 1 : Nat))] σ = some (.tup [.sl b' 0 l.length l.length, .bool true], σ') ∧ Row σ' b' (nints (wdL l l.length)) := by
  intro m
  induction m with
  | zero =>
    intro i σ b hi hr
    obtain rfl : i = l.length := by omega
    refine ⟨σ, b, ?_, hr⟩
    have h1 : ¬ ((l.length : Int) + 1 ≤ (l.length : Int)) := by omega
    rw [fi27]
    rw [xl27_0]
    simp only [B27_0, b27, Tryd.f27, Option.getD, fstC, sndC, bodyC, thnC, elsC]
    simp [xI_seq, xI_region, xI_ret, regA, regOps, runOps, opStep, wantedA, opA, evo, evos, calleeA, lk, nif_eq, putE, paramsE, valS, val2, keepE, restrict, finA, resA, binA, binInt, ofConst, ofConst1, loadA, TK.isAgg, asVar, unA, builtinA, lenOpA, lenA, ileb_cast, ileb_eq, ieqb_dec, indexAddrA, inB_dec, evPairs, storeA, AV.cellsOf, pairsOf, xI_nil, binBool, gcE, evOpt, tagZ, xI_block, xI_loopH, xI_condM, xI_exitM, xI_skip, xI_blk, exitA, ty2, ty3, ty4, ty9, ty24, eK27_0_0, ty9, h1]
    simp only [R27_0_0, b27, Tryd.f27, Option.getD, fstC, sndC, bodyC, thnC, elsC]
    simp [xI_seq, xI_region, xI_ret, regA, regOps, runOps, opStep, wantedA, opA, evo, evos, calleeA, lk, nif_eq, putE, paramsE, valS, val2, keepE, restrict, finA, resA, binA, binInt, ofConst, ofConst1, loadA, TK.isAgg, asVar, unA, builtinA, lenOpA, lenA, ileb_cast, ileb_eq, ieqb_dec, indexAddrA, inB_dec, evPairs, storeA, AV.cellsOf, pairsOf, xI_nil, binBool, gcE, evOpt, tagZ, xI_block, xI_loopH, xI_condM, xI_exitM, xI_skip, xI_blk, exitA, ty2, ty3, ty4, ty9, ty24, eK27_0_0]
  | succ m ih =>
    intro i σ b hi hr
    have c1 := v72 (l.take (i + 1)) (by simp; omega) (List.all_eq_true.2 fun x hx => List.all_eq_true.1 hb x (List.mem_of_mem_take hx)) σ [.str (l.take (i + 1))] rfl
    obtain ⟨σ1, ha, hr1, hn1, _⟩ := nints_append_row (x := bmL (l.take (i + 1))) ty24 ty2 hr (n := i) (by rw [wdL_len]) (by omega)
    obtain ⟨σ', b', h1, h2⟩ := ih (i + 1) σ1 (σ.n + 1) (by omega) hr1
    refine ⟨σ', b', ?_, h2⟩
    have hsl : ∀ σ : St, sliceA TT σ 9 (.str l) none (some (.int .i64 ((i : Int) + 1))) = some (.str (l.take (i + 1))) := by
      intro σ
      have h1 : (i : Int) + 1 ≤ (l.length : Int) := by omega
      have h2 : 0 ≤ (i : Int) + 1 := by omega
      have h3 : ((i : Int) + 1).toNat = i + 1 := by omega
      simp [sliceA, ty9, boundA, h1, h2, h3]
    have hle : (i : Int) + 1 ≤ (l.length : Int) := by omega
    have hnl : ¬ ((l.length : Int) < (i : Int) + 1) := by omega
    have hw : wrapA .i64 ((i : Int) + 1 + 1) = (i : Int) + 1 + 1 := wrapA_id (by omega) (by omega)
    have bs1 : ∀ σ x, buildSliceA TT σ 24 1 [(0, .int .i64 x)] = some (.sl σ.n 0 1 1, σ.push ⟨[.int .i64 x], 1, false⟩) := bsI1
    simp only [show ((i + 1 : Nat) : Int) = (i : Int) + 1 by omega, show ((i + 1 + 1 : Nat) : Int) = (i : Int) + 1 + 1 by omega] at h1 ⊢
    generalize bmL (l.take (i + 1)) = x at *
    generalize bmT (l.take (i + 1)) = y at *
    generalize l.take (i + 1) = li at *
    rw [fi27] at h1 ⊢
    rw [xl27_0]
    simp only [B27_0, b27, Tryd.f27, Option.getD, fstC, sndC, bodyC, thnC, elsC]
    simp [xI_seq, xI_region, xI_ret, regA, regOps, runOps, opStep, wantedA, opA, evo, evos, calleeA, lk, nif_eq, putE, paramsE, valS, val2, keepE, restrict, finA, resA, binA, binInt, ofConst, ofConst1, loadA, TK.isAgg, asVar, unA, builtinA, lenOpA, lenA, ileb_cast, ileb_eq, ieqb_dec, indexAddrA, inB_dec, evPairs, storeA, AV.cellsOf, pairsOf, xI_nil, binBool, gcE, evOpt, tagZ, xI_block, xI_loopH, xI_condM, xI_exitM, xI_skip, xI_blk, exitA, ty2, ty3, ty4, ty9, ty24, eK27_0_0, ty9, hsl, hle, hnl, hw, c1, bs1, ha]
    exact h1
theorem v27 (l : List UInt8) (hl : l.length ≤ 32) (hb : l.all isBit = true) : FnF TT 27 [.str l] (.tup [.lst l.length (ints (nints (wdL l l.length))), .bool true]) := by
  obtain ⟨σ', b', h1, h2⟩ := l27 l hl hb l.length 0 ((⟨[], 0⟩ : St).push ⟨ints [], 1, false⟩) 0 (by omega) ⟨false, rfl, by decide⟩
  have c1 := v71 l (by omega) ⟨[], 0⟩ [.str l] rfl
  have hok : srOk l = true := by simp [srOk, isBits, hl, hb]; omega
  rw [hok] at c1
  refine FnF.mk fn27 rfl md27 ⟨σ', .tup [.sl b' 0 l.length l.length, .bool true], ?_, ?_⟩
  · simp only [Nat.zero_add, show ((1 : Nat) : Int) = 1 from rfl] at h1
    rw [← h1, fi27]
    simp [xI_seq, xI_region, xI_ret, regA, regOps, runOps, opStep, wantedA, opA, evo, evos, calleeA, lk, nif_eq, putE, paramsE, valS, val2, keepE, restrict, finA, resA, binA, binInt, ofConst, ofConst1, loadA, TK.isAgg, asVar, unA, builtinA, lenOpA, lenA, ileb_cast, ileb_eq, ieqb_dec, indexAddrA, inB_dec, evPairs, storeA, AV.cellsOf, pairsOf, xI_nil, binBool, gcE, evOpt, tagZ, xI_block, xI_loopH, xI_condM, xI_exitM, xI_skip, xI_blk, exitA, ty2, ty3, ty4, ty9, ty24, eK27_0_0, c1, bsI0]
    rfl
  · have h3 := h2.frz (d := 3) (n := l.length) (by rw [nints_length, wdL_len]) (Nat.le_refl _)
    show (match mapO (frzV σ' 5) [.sl b' 0 l.length l.length, .bool true] with | some l => some (AV.tup l) | none => none) = _
    rw [mapO_cons h3 (mapO_cons rfl rfl)]
theorem c27 (l : List UInt8) (hl : l.length ≤ 32) (hb : l.all isBit = true) (σ : St) : callI TT 27 [.str l] σ = some (.tup [.lst l.length (ints (nints (wdL l l.length))), .bool true], σ) := v27 l hl hb σ _ rfl rfl

open Go.Wd
noncomputable def b5 : Code := Tryd.f5.body.getD .skip
noncomputable def B5_0 : Code := (bodyC (bodyC (sndC (fstC (sndC (sndC (sndC (sndC (sndC (sndC (sndC (sndC b5))))))))))))
noncomputable def K5_0 : List It := .lp B5_0 :: .blk 0 :: .code (sndC (sndC (sndC (sndC (sndC (sndC (sndC (sndC (sndC b5))))))))) :: []
theorem xl5_0 {fi : FI} {env : Env} {σ : St} : exI TT fi K5_0 env σ = exI TT fi (.code B5_0 :: K5_0) env σ := by unfold K5_0; exact xI_lp
noncomputable def R5_0_0 : List It := .code (sndC (sndC (sndC (sndC (sndC (sndC (sndC (sndC (sndC b5))))))))) :: []
theorem eK5_0_0 : exitA 0 K5_0 = some R5_0_0 := rfl
noncomputable def B5_1 : Code := (bodyC (bodyC (sndC (fstC (sndC (sndC (sndC (sndC (sndC (sndC (sndC (sndC (sndC (sndC (sndC (sndC (sndC b5)))))))))))))))))
noncomputable def K5_1 : List It := .lp B5_1 :: .blk 2 :: .code (sndC (sndC (sndC (sndC (sndC (sndC (sndC (sndC (sndC (sndC (sndC (sndC (sndC (sndC b5)))))))))))))) :: []
theorem xl5_1 {fi : FI} {env : Env} {σ : St} : exI TT fi K5_1 env σ = exI TT fi (.code B5_1 :: K5_1) env σ := by unfold K5_1; exact xI_lp
noncomputable def R5_1_2 : List It := .code (sndC (sndC (sndC (sndC (sndC (sndC (sndC (sndC (sndC (sndC (sndC (sndC (sndC (sndC b5)))))))))))))) :: []
theorem eK5_1_2 : exitA 2 K5_1 = some R5_1_2 := rfl
set_option maxHeartbeats 1000000 in
theorem l5a (more : List Nat) (l : List UInt8) (hl : l.length ≤ 32) (σ : St) : ∀ m i : Nat, i + m = l.length → exI TT (FI.of Tryd.f5 (TT.an 5)) K5_0 [(1, .lst more.length (byts more)), (5, .str l), (6, .ptr 0 0), (9, .lst l.length (ints (nints (wdL l l.length)))), (13, .int .i64 (bmL (l.take i) : Nat)), (14, .int .i64 i)] σ = exI TT (FI.of Tryd.f5 (TT.an 5)) K5_0 [(1, .lst more.length (byts more)), (5, .str l), (6, .ptr 0 0), (9, .lst l.length (ints (nints (wdL l l.length)))), (13, .int .i64 (bmL l : Nat)), (14, .int .i64 l.length)] σ := by
  intro m
  induction m with
  | zero =>
    intro i hi
    obtain rfl : i = l.length := by omega
    rw [List.take_length]
  | succ m ih =>
    intro i hi
    have h1 := ih (i + 1) (by omega)
    rw [← h1]
    clear h1 ih
    have hst := bmL_step (l := l) (i := i) (by omega)
    have hb1 := bmL_le (l.take i)
    have hb2 := bmL_le (l.take (i + 1))
    rw [List.length_take] at hb1 hb2
    have hg : (nints (wdL l l.length))[i]? = some ((bmL (l.take (i + 1)) : Nat) : Int) := nints_get (wdL_get l l.length i (by omega))
    have hrd : ∀ σ, cellsAt σ (.lp (ints (nints (wdL l l.length))) i) 1 = some [.int .i64 (bmL (l.take (i + 1)) : Nat)] := fun σ => lst_read hg
    have hlt : (i : Int) < (l.length : Int) := by omega
    have hnle : ¬ l.length ≤ i := by omega
    have hlt3 : i < l.length := by omega
    have hw := wrapS (n := i) (by omega)
    have hi1 : ((i + 1 : Nat) : Int) = (i : Int) + 1 := by omega
    rw [hi1]
    generalize bmL (l.take (i + 1)) = K at *
    generalize bmL (l.take i) = L at *
    rcases hst with hst | ⟨h1, h2⟩
    · subst hst
      conv => lhs; rw [fi5, xl5_0]; simp only [B5_0, b5, Tryd.f5, Option.getD, fstC, sndC, bodyC, thnC, elsC]
      rw [fi5]
      simp [xI_seq, xI_region, xI_ret, regA, regOps, runOps, opStep, wantedA, opA, evo, evos, calleeA, lk, nif_eq, putE, paramsE, valS, val2, keepE, restrict, finA, resA, binA, binInt, ofConst, ofConst1, loadA, TK.isAgg, asVar, unA, builtinA, lenOpA, lenA, ileb_cast, ileb_eq, ieqb_dec, indexAddrA, inB_dec, evPairs, storeA, AV.cellsOf, pairsOf, xI_nil, binBool, gcE, evOpt, tagZ, xI_block, xI_loopH, xI_condM, xI_exitM, xI_skip, xI_blk, exitA, ty2, ty3, ty4, ty5, ty9, ty24, ty27, ty36, eK5_0_0, eK5_1_2, runTr, pairsOk, pairOk, lstAt, lastOf, sameVal, AV.eqv, eqvs, eqvs_ints, regOps, blt_dec, cond_true, cond_false, fieldAddrA, allOne, AV.one, buildA, sizesOf, fillA, putCells, n_push, indexA, ty2, ty27, ty9, ty5, ty3, ty36, hrd, hlt, hnle, hlt3, hw]
    · have g1 : ¬ (K : Int) = (L : Int) := by omega
      have g1' : ¬ K = L := by omega
      have g2 : wrapA .i64 ((i : Int) + 1 - (L : Int)) = (K : Int) := by rw [wrapA_id (by omega) (by omega)]; omega
      have g3 : ¬ (K : Int) ≤ (L : Int) := by omega
      have g3' : ¬ K ≤ L := by omega
      conv => lhs; rw [fi5, xl5_0]; simp only [B5_0, b5, Tryd.f5, Option.getD, fstC, sndC, bodyC, thnC, elsC]
      rw [fi5]
      simp [xI_seq, xI_region, xI_ret, regA, regOps, runOps, opStep, wantedA, opA, evo, evos, calleeA, lk, nif_eq, putE, paramsE, valS, val2, keepE, restrict, finA, resA, binA, binInt, ofConst, ofConst1, loadA, TK.isAgg, asVar, unA, builtinA, lenOpA, lenA, ileb_cast, ileb_eq, ieqb_dec, indexAddrA, inB_dec, evPairs, storeA, AV.cellsOf, pairsOf, xI_nil, binBool, gcE, evOpt, tagZ, xI_block, xI_loopH, xI_condM, xI_exitM, xI_skip, xI_blk, exitA, ty2, ty3, ty4, ty5, ty9, ty24, ty27, ty36, eK5_0_0, eK5_1_2, runTr, pairsOk, pairOk, lstAt, lastOf, sameVal, AV.eqv, eqvs, eqvs_ints, regOps, blt_dec, cond_true, cond_false, fieldAddrA, allOne, AV.one, buildA, sizesOf, fillA, putCells, n_push, indexA, ty2, ty27, ty9, ty5, ty3, ty36, hrd, hlt, hnle, hlt3, hw, g1, g1', g2, g3, g3']
set_option maxHeartbeats 1000000 in
theorem l5b (l : List UInt8) (hl : l.length ≤ 32) (hb : l.all isBit = true) (w : Nat) (hw : w ≤ l.length) (σ : St) (hc : cellsAt σ (.ptr 1 0) 1 = some [.int .i64 w]) : ∀ m k : Nat, k + m = w → exI TT (FI.of Tryd.f5 (TT.an 5)) K5_1 [(5, .str l), (16, .ptr 1 0), (17, .int .i64 (ofB k (bitf l) : Nat)), (18, .int .i64 k)] σ = exI TT (FI.of Tryd.f5 (TT.an 5)) K5_1 [(5, .str l), (16, .ptr 1 0), (17, .int .i64 (ofB w (bitf l) : Nat)), (18, .int .i64 w)] σ := by
  intro m
  induction m with
  | zero =>
    intro k hk
    obtain rfl : k = w := by omega
    rfl
  | succ m ih =>
    intro k hk
    have h1 := ih (k + 1) (by omega)
    rw [← h1]
    clear h1 ih
    have hlt0 : k < l.length := by omega
    have hbg := bit_get hb (i := k) hlt0
    have hb2 := toNat_lt (bitf l (k))
    have hus := u8_sub hb2
    have huc : ∀ σ, convA TT σ 5 2 (.int .u8 (((bitf l (k)).toNat : Nat) : Int)) = some (.int .i64 (((bitf l (k)).toNat : Nat) : Int), σ) := u8_conv hb2
    have hp40 := pw_40 (k := k) (by omega)
    have hm40 : (bitf l (k)).toNat * 2 ^ k ≤ 1 * 2 ^ k := Nat.mul_le_mul_right _ (by omega)
    have hsl := sh_l (a := (bitf l (k)).toNat) (b := k) (by omega) (by omega)
    have ho40 := ofB_62 (f := bitf l) (k := k) (by omega)
    have hor := n_or (a := ofB k (bitf l)) (b := shlN (bitf l k).toNat k) (by omega) (by show (bitf l k).toNat * 2 ^ k ≤ _; omega)
    rw [show orN (ofB k (bitf l)) (shlN (bitf l k).toNat k) = ofB (k + 1) (bitf l) from rfl] at hor
    have hlt : (k : Int) < (w : Int) := by omega
    have hnle : ¬ w ≤ k := by omega
    have hwk := wrapS (n := k) (by omega)
    have hu64 := n_wrapu (a := k) (by omega)
    have convU : ∀ σ, convA TT σ 2 36 (.int .i64 (k : Int)) = some (.int .u64 (k : Int), σ) := fun σ => by simp [convA, ty2, ty36, hu64]
    have hi1 : ((k + 1 : Nat) : Int) = (k : Int) + 1 := by omega
    rw [hi1]
    generalize ofB (k + 1) (bitf l) = z at *
    generalize ofB k (bitf l) = y at *
    generalize (bitf l k).toNat = r at *
    conv => lhs; rw [fi5, xl5_1]; simp only [B5_1, b5, Tryd.f5, Option.getD, fstC, sndC, bodyC, thnC, elsC]
    rw [fi5]
    simp [xI_seq, xI_region, xI_ret, regA, regOps, runOps, opStep, wantedA, opA, evo, evos, calleeA, lk, nif_eq, putE, paramsE, valS, val2, keepE, restrict, finA, resA, binA, binInt, ofConst, ofConst1, loadA, TK.isAgg, asVar, unA, builtinA, lenOpA, lenA, ileb_cast, ileb_eq, ieqb_dec, indexAddrA, inB_dec, evPairs, storeA, AV.cellsOf, pairsOf, xI_nil, binBool, gcE, evOpt, tagZ, xI_block, xI_loopH, xI_condM, xI_exitM, xI_skip, xI_blk, exitA, ty2, ty3, ty4, ty5, ty9, ty24, ty27, ty36, eK5_0_0, eK5_1_2, runTr, pairsOk, pairOk, lstAt, lastOf, sameVal, AV.eqv, eqvs, eqvs_ints, regOps, blt_dec, cond_true, cond_false, fieldAddrA, allOne, AV.one, buildA, sizesOf, fillA, putCells, n_push, indexA, ty2, ty27, ty9, ty5, ty3, ty36, hc, hbg, hus, huc, hsl, hor, hlt, hnle, hwk, convU]
set_option maxHeartbeats 2000000 in
theorem t5 (l : List UInt8) (hl : l.length ≤ 32) (hb : l.all isBit = true) (w t : Nat) (hw : w ≤ 7) (ht : t < 2 ^ w) (hwl : w < bmL l) (σ : St) (g1 : RGB σ 1 w t) : exI TT (FI.of Tryd.f5 (TT.an 5)) K5_1 [(5, .str l), (16, .ptr 1 0), (17, .int .i64 (ofB 0 (bitf l) : Nat)), (18, .int .i64 0)] σ = some (.bool true, σ) := by
  have hbl := bmL_le l
  have h0 := l5b l hl hb w (by omega) σ g1.c0 w 0 (by omega)
  simp only [show ((0 : Nat) : Int) = 0 from rfl, Int.natCast_zero] at h0
  have hS := ofB_lt (bitf l) w
  have hne : outR w t l.length (ofB w (bitf l)) ≠ l := by
    intro e
    have h1 := (bmL_lst l).le (out_gen (by omega) ht hS e)
    omega
  have ok : rbOk w t (ofB w (bitf l) : Nat) (l.length : Nat) = true := rbOk_of (by omega) ht hS (by omega)
  have c1 := v21 w t (ofB w (bitf l) : Nat) (l.length : Nat) σ [.agg [.int .i64 w, .int .i64 t], .int .i64 (ofB w (bitf l) : Nat), .int .i64 (l.length : Nat)] rfl
  rw [rbV_yes ok, ok] at c1
  have p1 := g1.c0
  have p2 := g1.cc
  rw [h0]
  clear h0
  generalize outR w t l.length (ofB w (bitf l)) = z at *
  have hbn : binStr .neq z l = some (.bool true) := by simp [binStr, hne]
  generalize ofB w (bitf l) = S at *
  rw [fi5]
  rw [xl5_1]
  simp only [B5_1, b5, Tryd.f5, Option.getD, fstC, sndC, bodyC, thnC, elsC]
  simp [xI_seq, xI_region, xI_ret, regA, regOps, runOps, opStep, wantedA, opA, evo, evos, calleeA, lk, nif_eq, putE, paramsE, valS, val2, keepE, restrict, finA, resA, binA, binInt, ofConst, ofConst1, loadA, TK.isAgg, asVar, unA, builtinA, lenOpA, lenA, ileb_cast, ileb_eq, ieqb_dec, indexAddrA, inB_dec, evPairs, storeA, AV.cellsOf, pairsOf, xI_nil, binBool, gcE, evOpt, tagZ, xI_block, xI_loopH, xI_condM, xI_exitM, xI_skip, xI_blk, exitA, ty2, ty3, ty4, ty5, ty9, ty24, ty27, ty36, eK5_0_0, eK5_1_2, runTr, pairsOk, pairOk, lstAt, lastOf, sameVal, AV.eqv, eqvs, eqvs_ints, regOps, blt_dec, cond_true, cond_false, fieldAddrA, allOne, AV.one, buildA, sizesOf, fillA, putCells, n_push, indexA, ty2, ty27, ty9, ty5, ty3, ty36, p1]
  simp only [R5_1_2, b5, Tryd.f5, Option.getD, fstC, sndC, bodyC, thnC, elsC]
  simp [xI_seq, xI_region, xI_ret, regA, regOps, runOps, opStep, wantedA, opA, evo, evos, calleeA, lk, nif_eq, putE, paramsE, valS, val2, keepE, restrict, finA, resA, binA, binInt, ofConst, ofConst1, loadA, TK.isAgg, asVar, unA, builtinA, lenOpA, lenA, ileb_cast, ileb_eq, ieqb_dec, indexAddrA, inB_dec, evPairs, storeA, AV.cellsOf, pairsOf, xI_nil, binBool, gcE, evOpt, tagZ, xI_block, xI_loopH, xI_condM, xI_exitM, xI_skip, xI_blk, exitA, ty2, ty3, ty4, ty5, ty9, ty24, ty27, ty36, eK5_0_0, eK5_1_2, runTr, pairsOk, pairOk, lstAt, lastOf, sameVal, AV.eqv, eqvs, eqvs_ints, regOps, blt_dec, cond_true, cond_false, fieldAddrA, allOne, AV.one, buildA, sizesOf, fillA, putCells, n_push, indexA, ty2, ty27, ty9, ty5, ty3, ty36, p2, c1, hbn]
set_option maxHeartbeats 4000000 in
theorem w5 (code : List Nat) (hb : ∀ x ∈ code, x < 256) (more : List Nat) (hm : ∀ x ∈ more, x < 256) : FnV TT 5 [.lst code.length (byts code), .lst more.length (byts more)] (.bool true) := by
  refine FnV.mk fn5 rfl md5 ?_ (fun _ => rfl) rfl
  rw [fi5]
  have cl := v18 code more ⟨[], 0⟩ [.lst code.length (byts code), .lst more.length (byts more)] rfl
  by_cases hlong : 48 < code.length ∨ 48 < more.length
  · have e : (decide (48 < code.length) || decide (48 < more.length)) = true := by simpa using hlong
    rw [e] at cl
    refine ⟨⟨[], 0⟩, ?_⟩
    simp [xI_seq, xI_region, xI_ret, regA, regOps, runOps, opStep, wantedA, opA, evo, evos, calleeA, lk, nif_eq, putE, paramsE, valS, val2, keepE, restrict, finA, resA, binA, binInt, ofConst, ofConst1, loadA, TK.isAgg, asVar, unA, builtinA, lenOpA, lenA, ileb_cast, ileb_eq, ieqb_dec, indexAddrA, inB_dec, evPairs, storeA, AV.cellsOf, pairsOf, xI_nil, binBool, gcE, evOpt, tagZ, xI_block, xI_loopH, xI_condM, xI_exitM, xI_skip, xI_blk, exitA, ty2, ty3, ty4, ty5, ty9, ty24, ty27, ty36, eK5_0_0, eK5_1_2, runTr, pairsOk, pairOk, lstAt, lastOf, sameVal, AV.eqv, eqvs, eqvs_ints, regOps, blt_dec, cond_true, cond_false, fieldAddrA, allOne, AV.one, buildA, sizesOf, fillA, putCells, n_push, indexA, ty2, ty27, ty9, ty5, ty3, ty36, cl]
  · have e : (decide (48 < code.length) || decide (48 < more.length)) = false := by simp; omega
    rw [e] at cl
    obtain ⟨l, hl16, hlb, vb⟩ := v25 code hb (by omega) 16 (by decide)
    have cb := vb ⟨[], 0⟩ [.lst code.length (byts code), .int .i64 (16 : Nat)] rfl
    have hok : srOk l = true := by simp [srOk, isBits, hlb]; omega
    have hL := bmL_le l
    have cs := v26 l (by omega) ⟨[], 0⟩ [.str l] rfl
    rw [srV, if_pos ⟨hok, by omega⟩] at cs
    obtain ⟨hT, hG⟩ := bmT_gen (l := l) (by omega)
    have hS := ofB_lt (bitf l) (bmL l)
    have hout := gen_out hlb (by omega) hL hT hG
    have ok : rbOk (bmL l) (bmT l) (ofB (bmL l) (bitf l) : Nat) (l.length : Nat) = true := rbOk_of (by omega) hT hS (by omega)
    obtain ⟨σ, hσ, g0, hn0, _⟩ := RGB.s2 (σ := (⟨[], 0⟩ : St).push ⟨[.int .i64 0, .int .i64 0], 2, false⟩) (D := 0) (a := 0) (b := 0) get_push_same (bmL l) (bmT l)
    have hn : σ.n = 1 := hn0
    have p0 := g0.c0
    have p0c := g0.cc
    have cw := c27 l (by omega) hlb σ
    have cr := v21 (bmL l) (bmT l) (ofB (bmL l) (bitf l) : Nat) (l.length : Nat) σ [.agg [.int .i64 (bmL l), .int .i64 (bmT l)], .int .i64 (ofB (bmL l) (bitf l) : Nat), .int .i64 (l.length : Nat)] rfl
    rw [rbV_yes ok, ok, hout] at cr
    have h0 := l5a more l (by omega) σ l.length 0 (by omega)
    rw [List.take_zero, bmL_nil] at h0
    obtain ⟨w, t, hw, ht, vr⟩ := v19 more hm (by omega)
    have ce := vr σ [.lst more.length (byts more)] rfl
    obtain ⟨σ1, e1⟩ : ∃ σ1, σ.push ⟨[.int .i64 0, .int .i64 0], 2, false⟩ = σ1 := ⟨_, rfl⟩
    have Q1 : RGB σ1 1 0 0 := by
      have h := get_push_same (σ := σ) (x := ⟨[.int .i64 0, .int .i64 0], 2, false⟩)
      rw [hn] at h; subst e1; exact h
    have P1 : RGB σ1 0 (bmL l) (bmT l) := g0.keep (by subst e1; exact get_push_lt (by omega))
    obtain ⟨σ2, s2, Q2, n2, u2⟩ := Q1.s2 w t
    have P2 := P1.keep (u2 0 (by decide))
    have q2 := Q2.c0
    have p2 := P2.c0
    have bsne := bsne l
    simp only [show ((16 : Nat) : Int) = 16 from rfl] at cb
    simp only [show ((0 : Nat) : Int) = 0 from rfl, Int.natCast_zero] at h0
    by_cases hwl : bmL l ≤ w
    · have hwl' : (bmL l : Int) ≤ (w : Int) := by omega
      clear hG hT hS vb vr ok hout
      refine ⟨σ2, ?_⟩
      generalize bmT l = T at *
      generalize ofB (bmL l) (bitf l) = S at *
      generalize bmL l = L at *
      rw [fi5] at h0
      simp [xI_seq, xI_region, xI_ret, regA, regOps, runOps, opStep, wantedA, opA, evo, evos, calleeA, lk, nif_eq, putE, paramsE, valS, val2, keepE, restrict, finA, resA, binA, binInt, ofConst, ofConst1, loadA, TK.isAgg, asVar, unA, builtinA, lenOpA, lenA, ileb_cast, ileb_eq, ieqb_dec, indexAddrA, inB_dec, evPairs, storeA, AV.cellsOf, pairsOf, xI_nil, binBool, gcE, evOpt, tagZ, xI_block, xI_loopH, xI_condM, xI_exitM, xI_skip, xI_blk, exitA, ty2, ty3, ty4, ty5, ty9, ty24, ty27, ty36, eK5_0_0, eK5_1_2, runTr, pairsOk, pairOk, lstAt, lastOf, sameVal, AV.eqv, eqvs, eqvs_ints, regOps, blt_dec, cond_true, cond_false, fieldAddrA, allOne, AV.one, buildA, sizesOf, fillA, putCells, n_push, indexA, ty2, ty27, ty9, ty5, ty3, ty36, cl, cb, cs, hσ, p0, p0c, cw, cr, bsne, RGB.c0]
      refine h0.trans ?_
      rw [xl5_0]
      simp only [B5_0, b5, Tryd.f5, Option.getD, fstC, sndC, bodyC, thnC, elsC]
      simp [xI_seq, xI_region, xI_ret, regA, regOps, runOps, opStep, wantedA, opA, evo, evos, calleeA, lk, nif_eq, putE, paramsE, valS, val2, keepE, restrict, finA, resA, binA, binInt, ofConst, ofConst1, loadA, TK.isAgg, asVar, unA, builtinA, lenOpA, lenA, ileb_cast, ileb_eq, ieqb_dec, indexAddrA, inB_dec, evPairs, storeA, AV.cellsOf, pairsOf, xI_nil, binBool, gcE, evOpt, tagZ, xI_block, xI_loopH, xI_condM, xI_exitM, xI_skip, xI_blk, exitA, ty2, ty3, ty4, ty5, ty9, ty24, ty27, ty36, eK5_0_0, eK5_1_2, runTr, pairsOk, pairOk, lstAt, lastOf, sameVal, AV.eqv, eqvs, eqvs_ints, regOps, blt_dec, cond_true, cond_false, fieldAddrA, allOne, AV.one, buildA, sizesOf, fillA, putCells, n_push, indexA, ty2, ty27, ty9, ty5, ty3, ty36]
      simp only [R5_0_0, b5, Tryd.f5, Option.getD, fstC, sndC, bodyC, thnC, elsC]
      simp [xI_seq, xI_region, xI_ret, regA, regOps, runOps, opStep, wantedA, opA, evo, evos, calleeA, lk, nif_eq, putE, paramsE, valS, val2, keepE, restrict, finA, resA, binA, binInt, ofConst, ofConst1, loadA, TK.isAgg, asVar, unA, builtinA, lenOpA, lenA, ileb_cast, ileb_eq, ieqb_dec, indexAddrA, inB_dec, evPairs, storeA, AV.cellsOf, pairsOf, xI_nil, binBool, gcE, evOpt, tagZ, xI_block, xI_loopH, xI_condM, xI_exitM, xI_skip, xI_blk, exitA, ty2, ty3, ty4, ty5, ty9, ty24, ty27, ty36, eK5_0_0, eK5_1_2, runTr, pairsOk, pairOk, lstAt, lastOf, sameVal, AV.eqv, eqvs, eqvs_ints, regOps, blt_dec, cond_true, cond_false, fieldAddrA, allOne, AV.one, buildA, sizesOf, fillA, putCells, n_push, indexA, ty2, ty27, ty9, ty5, ty3, ty36, p0, ce, hn, e1, s2, q2, p2, hwl, hwl']
    · have hwl' : ¬ (bmL l : Int) ≤ (w : Int) := by omega
      have fin := t5 l (by omega) hlb w t hw ht (by omega) σ2 Q2
      simp only [ofB, show ((0 : Nat) : Int) = 0 from rfl, Int.natCast_zero] at fin
      clear hG hT hS vb vr ok hout
      refine ⟨σ2, ?_⟩
      generalize bmT l = T at *
      generalize ofB (bmL l) (bitf l) = S at *
      generalize bmL l = L at *
      rw [fi5] at h0 fin
      simp [xI_seq, xI_region, xI_ret, regA, regOps, runOps, opStep, wantedA, opA, evo, evos, calleeA, lk, nif_eq, putE, paramsE, valS, val2, keepE, restrict, finA, resA, binA, binInt, ofConst, ofConst1, loadA, TK.isAgg, asVar, unA, builtinA, lenOpA, lenA, ileb_cast, ileb_eq, ieqb_dec, indexAddrA, inB_dec, evPairs, storeA, AV.cellsOf, pairsOf, xI_nil, binBool, gcE, evOpt, tagZ, xI_block, xI_loopH, xI_condM, xI_exitM, xI_skip, xI_blk, exitA, ty2, ty3, ty4, ty5, ty9, ty24, ty27, ty36, eK5_0_0, eK5_1_2, runTr, pairsOk, pairOk, lstAt, lastOf, sameVal, AV.eqv, eqvs, eqvs_ints, regOps, blt_dec, cond_true, cond_false, fieldAddrA, allOne, AV.one, buildA, sizesOf, fillA, putCells, n_push, indexA, ty2, ty27, ty9, ty5, ty3, ty36, cl, cb, cs, hσ, p0, p0c, cw, cr, bsne]
      refine h0.trans ?_
      rw [xl5_0]
      simp only [B5_0, b5, Tryd.f5, Option.getD, fstC, sndC, bodyC, thnC, elsC]
      simp [xI_seq, xI_region, xI_ret, regA, regOps, runOps, opStep, wantedA, opA, evo, evos, calleeA, lk, nif_eq, putE, paramsE, valS, val2, keepE, restrict, finA, resA, binA, binInt, ofConst, ofConst1, loadA, TK.isAgg, asVar, unA, builtinA, lenOpA, lenA, ileb_cast, ileb_eq, ieqb_dec, indexAddrA, inB_dec, evPairs, storeA, AV.cellsOf, pairsOf, xI_nil, binBool, gcE, evOpt, tagZ, xI_block, xI_loopH, xI_condM, xI_exitM, xI_skip, xI_blk, exitA, ty2, ty3, ty4, ty5, ty9, ty24, ty27, ty36, eK5_0_0, eK5_1_2, runTr, pairsOk, pairOk, lstAt, lastOf, sameVal, AV.eqv, eqvs, eqvs_ints, regOps, blt_dec, cond_true, cond_false, fieldAddrA, allOne, AV.one, buildA, sizesOf, fillA, putCells, n_push, indexA, ty2, ty27, ty9, ty5, ty3, ty36]
      simp only [R5_0_0, b5, Tryd.f5, Option.getD, fstC, sndC, bodyC, thnC, elsC]
      simp [xI_seq, xI_region, xI_ret, regA, regOps, runOps, opStep, wantedA, opA, evo, evos, calleeA, lk, nif_eq, putE, paramsE, valS, val2, keepE, restrict, finA, resA, binA, binInt, ofConst, ofConst1, loadA, TK.isAgg, asVar, unA, builtinA, lenOpA, lenA, ileb_cast, ileb_eq, ieqb_dec, indexAddrA, inB_dec, evPairs, storeA, AV.cellsOf, pairsOf, xI_nil, binBool, gcE, evOpt, tagZ, xI_block, xI_loopH, xI_condM, xI_exitM, xI_skip, xI_blk, exitA, ty2, ty3, ty4, ty5, ty9, ty24, ty27, ty36, eK5_0_0, eK5_1_2, runTr, pairsOk, pairOk, lstAt, lastOf, sameVal, AV.eqv, eqvs, eqvs_ints, regOps, blt_dec, cond_true, cond_false, fieldAddrA, allOne, AV.one, buildA, sizesOf, fillA, putCells, n_push, indexA, ty2, ty27, ty9, ty5, ty3, ty36, p0, ce, hn, e1, s2, q2, p2, hwl, hwl']
      exact fin

end Go.Proofs.YthkdbkjkccogfaaDoor
