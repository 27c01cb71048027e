/- Contracts behind the law of agreements, laid out of the texts of the same hand. Nothing is claimed here; no condition. -/
import Derived.Test.YthkdbkjkccogfaaDoorUb
set_option linter.unusedSimpArgs false
set_option linter.unusedVariables false
namespace Go.Proofs.YthkdbkjkccogfaaDoor
open Go Go.Abs
open Go.Wd
open Go.Wd
open Go.Wd
open Go.Wd
open Go.Wd
open Go.Wd
theorem outR_bits (w t : Nat) : ∀ m n, (outR w t m n).all isBit = true
  | 0, _ => rfl
  | m + 1, n => by
    rw [outR, List.all_cons, outR_bits w t m]
    rw [isBit_nat, bb_nat (rbit_lt w n)]
    have := rbit_lt w n
    generalize rbit w n = r at *
    have : r = 0 ∨ r = 1 := by omega
    rcases this with rfl | rfl <;> rfl
theorem bb_isBit {r : Nat} (h : r < 2) : isBit (bb r) = true := by
  have : r = 0 ∨ r = 1 := by omega
  rcases this with rfl | rfl <;> rfl
noncomputable def b70 : Code := Tryd.f70.body.getD .skip
noncomputable def B70_0 : Code := (bodyC (bodyC (fstC (sndC (sndC (sndC (sndC b70)))))))
noncomputable def K70_0 : List It := .lp B70_0 :: .blk 0 :: .code (sndC (sndC (sndC (sndC (sndC b70))))) :: []
theorem xl70_0 {fi : FI} {env : Env} {σ : St} : exI TT fi K70_0 env σ = exI TT fi (.code B70_0 :: K70_0) env σ := by unfold K70_0; exact xI_lp
noncomputable def R70_0_0 : List It := .code (sndC (sndC (sndC (sndC (sndC b70))))) :: []
theorem eK70_0_0 : exitA 0 K70_0 = some R70_0_0 := rfl
theorem l70 (c : List Nat) (hc : ∀ x ∈ c, x < 256) (hcl : c.length ≤ 1000) (s : Nat) : ∀ (n k m : Nat) (σ : St) (b : Nat) (l : List UInt8), k + 2 * n ≤ 900000 → l.length + n ≤ 100000 → SRC σ s c k m → s ≠ b → BRow σ b l → l.all isBit = true →
    ∃ (σ' : St) (l' : List UInt8), exI TT (FI.of Tryd.f70 (TT.an 70)) K70_0 [(0, .ptr s 0), (5, .int .i64 n), (7, .sl b 0 l.length l.length)] σ = some (.str l', σ') ∧ l'.length = l.length + n ∧ l'.all isBit = true := by
  intro n
  induction n with
  | zero =>
    intro k m σ b l hk hl hS hsb hr hb
    have hs := toStr hr rfl
    refine ⟨σ, l, ?_, rfl, hb⟩
    rw [fi70]
    rw [xl70_0]
    simp only [B70_0, b70, Tryd.f70, Option.getD, fstC, sndC, bodyC, thnC, elsC]
    simp [xI_seq, xI_region, xI_ret, regA, regOps, runOps, opStep, wantedA, opA, evo, evos, calleeA, lk, nif_eq, putE, paramsE, valS, val2, keepE, restrict, finA, resA, binA, binInt, ofConst, ofConst1, loadA, TK.isAgg, asVar, unA, builtinA, lenOpA, lenA, ileb_cast, ileb_eq, ieqb_dec, indexAddrA, inB_dec, evPairs, storeA, AV.cellsOf, pairsOf, xI_nil, binBool, gcE, evOpt, tagZ, xI_block, xI_loopH, xI_condM, xI_exitM, xI_skip, xI_blk, exitA, ty2, ty5, ty9, ty27, ty32, ty36, eK70_0_0, runTr, pairsOk, pairOk, lstAt, lastOf, sameVal, AV.eqv, eqvs, eqvs_ints, regOps, blt_dec, cond_true, cond_false, fieldAddrA, allOne, AV.one, buildA, sizesOf, fillA, putCells, n_push, indexA, ty2, ty27, ty9, ty5, ty3, ty36]
    simp only [R70_0_0, b70, Tryd.f70, Option.getD, fstC, sndC, bodyC, thnC, elsC]
    simp [xI_seq, xI_region, xI_ret, regA, regOps, runOps, opStep, wantedA, opA, evo, evos, calleeA, lk, nif_eq, putE, paramsE, valS, val2, keepE, restrict, finA, resA, binA, binInt, ofConst, ofConst1, loadA, TK.isAgg, asVar, unA, builtinA, lenOpA, lenA, ileb_cast, ileb_eq, ieqb_dec, indexAddrA, inB_dec, evPairs, storeA, AV.cellsOf, pairsOf, xI_nil, binBool, gcE, evOpt, tagZ, xI_block, xI_loopH, xI_condM, xI_exitM, xI_skip, xI_blk, exitA, ty2, ty5, ty9, ty27, ty32, ty36, eK70_0_0, hs]
  | succ n ih =>
    intro k m σ b l hk hl hS hsb hr hb
    obtain ⟨r, k2, m2, σ2, c2, hr2, S2, hk2, n2, u2⟩ := c66 c hc hcl k m (by omega) 2 (by decide) σ s hS
    replace hr2 : r < 2 := by omega
    have hbn := hr.lt
    have hrow : BRow σ2 b l := by
      obtain ⟨e_, o_, h1, h2⟩ := hr
      first | exact ⟨e_, o_, (u2 b (fun e => hsb e.symm)).trans h1, by omega⟩ | exact ⟨e_, o_, (u2 b (fun e => hsb e.symm)).trans h1, by rw [n2]; exact h2⟩
    obtain ⟨σ3, a3, r3, n3, _, u3⟩ := bappend (x := bb r) ty32 ty5 hrow rfl (by omega)
    have hs2 := S2.1
    have S3 := S2.keep (σ' := σ3) (by omega) (u3 s hsb (by omega))
    obtain ⟨σ', l', h1, h2, h3⟩ := ih k2 m2 σ3 (σ2.n + 1) (l ++ [bb r]) (by omega) (by simp; omega) S3 (by omega) r3 (by simp [hb, bb_isBit hr2])
    refine ⟨σ', l', ?_, by rw [h2]; simp; omega, h3⟩
    have hc2 := bb_wrap hr2
    have hc3 : ∀ σ, convA TT σ 2 5 (.int .i64 (48 + (r : Int))) = some (.int .u8 ((bb r).toNat : Nat), σ) := bb_conv hr2
    have hw : wrapA .i64 ((n : Int) + 1 - 1) = (n : Int) := by rw [wrapA_id (by omega) (by omega)]; omega
    have hw9 : wrapA .i64 (n : Int) = (n : Int) := wrapA_id (by omega) (by omega)
    have hp : (0 : Int) < (n : Int) + 1 := by omega
    have hp2 : ¬ ((n : Int) + 1 ≤ 0) := by omega
    simp only [show ((2 : Nat) : Int) = 2 from rfl] at c2
    rw [show ((n + 1 : Nat) : Int) = (n : Int) + 1 by omega]
    simp only [List.length_append, List.length_singleton] at h1
    rw [fi70] at h1 ⊢
    rw [xl70_0]
    simp only [B70_0, b70, Tryd.f70, Option.getD, fstC, sndC, bodyC, thnC, elsC]
    simp [xI_seq, xI_region, xI_ret, regA, regOps, runOps, opStep, wantedA, opA, evo, evos, calleeA, lk, nif_eq, putE, paramsE, valS, val2, keepE, restrict, finA, resA, binA, binInt, ofConst, ofConst1, loadA, TK.isAgg, asVar, unA, builtinA, lenOpA, lenA, ileb_cast, ileb_eq, ieqb_dec, indexAddrA, inB_dec, evPairs, storeA, AV.cellsOf, pairsOf, xI_nil, binBool, gcE, evOpt, tagZ, xI_block, xI_loopH, xI_condM, xI_exitM, xI_skip, xI_blk, exitA, ty2, ty5, ty9, ty27, ty32, ty36, eK70_0_0, runTr, pairsOk, pairOk, lstAt, lastOf, sameVal, AV.eqv, eqvs, eqvs_ints, regOps, blt_dec, cond_true, cond_false, hp, hp2, hw, hw9, c2, hc2, hc3, bb1, a3]
    simpa using h1
set_option maxHeartbeats 1000000 in
theorem c70 (c : List Nat) (hc : ∀ x ∈ c, x < 256) (hcl : c.length ≤ 1000) (most : Nat) (hm : most ≤ 400) (k m : Nat) (hk : k ≤ 1000) (σ : St) (s : Nat) (hS : SRC σ s c k m) : ∃ (l : List UInt8) (σ' : St), callI TT 70 [.ptr s 0, .int .i64 most] σ = some (.str l, σ') ∧ l.length ≤ most ∧ l.all isBit = true := by
  obtain ⟨n, k1, m1, σ1, c1, hn, S1, hk1, n1, u1⟩ := c66 c hc hcl k m (by omega) (most + 1) (by omega) σ s hS
  replace hn : n ≤ most := by omega
  obtain ⟨q, k2, m2, σ2, c2, S2, hk2, n2, u2⟩ := c67 c hc hcl k1 m1 (by omega) 2 (by decide) σ1 s S1
  have hw1 : wrapA .i64 ((most : Int) + 1) = ((most + 1 : Nat) : Int) := by rw [wrapA_id (by omega) (by omega)]; omega
  simp only [show ((2 : Nat) : Int) = 2 from rfl] at c2
  cases q with
  | false =>
    have hs2 := S2.1
    obtain ⟨σ', l', h1, h2, h3⟩ := l70 c hc hcl s n k2 m2 (σ2.push ⟨intsOf [], 1, false⟩) σ2.n [] (by omega) (by simp; omega) (S2.keep (by simp [n_push]) (get_push_lt hs2)) (by omega) (BRow.push σ2 []) rfl
    refine ⟨l', σ', ?_, by rw [h2]; simp; omega, h3⟩
    rw [cI_0 fn70 rfl md70, fi70]
    rw [fi70] at h1
    simp only [List.length_nil, show ((0 : Nat) : Int) = 0 from rfl, Int.natCast_zero] at h1
    generalize most + 1 = mo at *
    simp [xI_seq, xI_region, xI_ret, regA, regOps, runOps, opStep, wantedA, opA, evo, evos, calleeA, lk, nif_eq, putE, paramsE, valS, val2, keepE, restrict, finA, resA, binA, binInt, ofConst, ofConst1, loadA, TK.isAgg, asVar, unA, builtinA, lenOpA, lenA, ileb_cast, ileb_eq, ieqb_dec, indexAddrA, inB_dec, evPairs, storeA, AV.cellsOf, pairsOf, xI_nil, binBool, gcE, evOpt, tagZ, xI_block, xI_loopH, xI_condM, xI_exitM, xI_skip, xI_blk, exitA, ty2, ty5, ty9, ty27, ty32, ty36, eK70_0_0, runTr, pairsOk, pairOk, lstAt, lastOf, sameVal, AV.eqv, eqvs, eqvs_ints, regOps, blt_dec, cond_true, cond_false, ty2, hw1, c1, c2, bb0]
    exact h1
  | true =>
    obtain ⟨w, k3, m3, σ3, c3, hw, S3, hk3, n3, u3⟩ := c66 c hc hcl k2 m2 (by omega) 6 (by decide) σ2 s S2
    replace hw : w ≤ 5 := by omega
    have hs3 := S3.1
    obtain ⟨σ4, e4⟩ : ∃ σ4, σ3.push ⟨[.int .i64 0, .int .i64 0], 2, false⟩ = σ4 := ⟨_, rfl⟩
    have n4 : σ4.n = σ3.n + 1 := by subst e4; rfl
    obtain ⟨D0, hD⟩ : ∃ D0, σ3.n = D0 := ⟨_, rfl⟩
    have Q4 : RGB σ4 D0 0 0 := by
      have h := get_push_same (σ := σ3) (x := ⟨[.int .i64 0, .int .i64 0], 2, false⟩)
      rw [hD] at h; subst e4; exact h
    obtain ⟨σ5, c5, Q5, n5, u5⟩ := Q4.s2 w 0
    have S5 := S3.keep (σ' := σ5) (by omega) ((u5 s (by omega)).trans (by subst e4; exact get_push_lt hs3))
    have q5 := Q5.c0
    have hw64 : wrapA .u64 (w : Int) = (w : Int) := (w_wrap .u64 (by simp only [topOf]; omega))
    have hp := pow_i w (by omega)
    have hN2 : 1 ≤ 2 ^ w := Nat.one_le_two_pow
    have hN7 : 2 ^ w ≤ 2 ^ 5 := Nat.pow_le_pow_right (by decide) hw
    obtain ⟨N, hN⟩ : ∃ N, 2 ^ w = N := ⟨_, rfl⟩
    rw [hN] at hp hN2 hN7
    obtain ⟨t, k6, m6, σ6, c6, ht, S6, hk6, n6, u6⟩ := c66 c hc hcl k3 m3 (by omega) N (by omega) σ5 s S5
    replace ht : t < N := by omega
    have Q6 := Q5.keep (u6 D0 (by omega))
    obtain ⟨σ7, c7, Q7, n7, u7⟩ := Q6.s1 t
    have S7 := S6.keep (σ' := σ7) (by omega) (u7 s (by omega))
    have q7 := Q7.c0
    obtain ⟨x, k8, m8, σ8, c8, hx, S8, hk8, n8, u8⟩ := c66 c hc hcl k6 m6 (by omega) N (by omega) σ7 s S7
    replace hx : x < N := by omega
    have Q8 := Q7.keep (u8 D0 (by omega))
    obtain ⟨σ9, c9, _⟩ := r117 w t n x (by omega) (by omega) (by omega) (by omega) D0 _ rfl σ8 Q8 (by omega)
    refine ⟨outR w t n x, σ9, ?_, by rw [outR_length]; omega, outR_bits _ _ _ _⟩
    rw [cI_0 fn70 rfl md70, fi70]
    generalize most + 1 = mo at *
    simp only [show ((6 : Nat) : Int) = 6 from rfl] at c3
    have convU : ∀ σ, convA TT σ 2 36 (.int .i64 (w : Int)) = some (.int .u64 (w : Int), σ) := fun σ => by simp [convA, ty2, ty36, hw64]
    simp [xI_seq, xI_region, xI_ret, regA, regOps, runOps, opStep, wantedA, opA, evo, evos, calleeA, lk, nif_eq, putE, paramsE, valS, val2, keepE, restrict, finA, resA, binA, binInt, ofConst, ofConst1, loadA, TK.isAgg, asVar, unA, builtinA, lenOpA, lenA, ileb_cast, ileb_eq, ieqb_dec, indexAddrA, inB_dec, evPairs, storeA, AV.cellsOf, pairsOf, xI_nil, binBool, gcE, evOpt, tagZ, xI_block, xI_loopH, xI_condM, xI_exitM, xI_skip, xI_blk, exitA, ty2, ty5, ty9, ty27, ty32, ty36, eK70_0_0, runTr, pairsOk, pairOk, lstAt, lastOf, sameVal, AV.eqv, eqvs, eqvs_ints, regOps, blt_dec, cond_true, cond_false, fieldAddrA, allOne, AV.one, buildA, sizesOf, fillA, putCells, n_push, indexA, ty2, ty27, ty9, ty5, ty3, ty36, hw1, c1, c2, c3, e4, hD, c5, q5, convU, hp, c6, c7, q7, c8, c9]
theorem v25 (c : List Nat) (hc : ∀ x ∈ c, x < 256) (hcl : c.length ≤ 1000) (most : Nat) (hm : most ≤ 400) : ∃ l : List UInt8, l.length ≤ most ∧ l.all isBit = true ∧ FnV TT 25 [.lst c.length (byts c), .int .i64 most] (.str l) := by
  obtain ⟨σ1, c1, S1, n1, o1⟩ := c65 c ⟨[], 0⟩
  obtain ⟨l, σ2, c2, h1, h2⟩ := c70 c hc hcl most hm 0 0 (by decide) σ1 0 S1
  refine ⟨l, h1, h2, FnV.mk fn25 rfl md25 ⟨σ2, ?_⟩ (fun _ => rfl) rfl⟩
  rw [fi25]
  simp [xI_seq, xI_region, xI_ret, regA, regOps, runOps, opStep, wantedA, opA, evo, evos, calleeA, lk, nif_eq, putE, paramsE, valS, val2, keepE, restrict, finA, resA, binA, binInt, ofConst, ofConst1, loadA, TK.isAgg, asVar, unA, builtinA, lenOpA, lenA, ileb_cast, ileb_eq, ieqb_dec, indexAddrA, inB_dec, evPairs, storeA, AV.cellsOf, pairsOf, xI_nil, binBool, gcE, evOpt, tagZ, xI_block, xI_loopH, xI_condM, xI_exitM, xI_skip, xI_blk, exitA, c1, c2]

open Go.Wd
/-- Sums. -/
def sumI : Nat → (Nat → Int) → Int
  | 0, _ => 0
  | n + 1, f => sumI n f + f n
theorem sumI_congr {f g : Nat → Int} : ∀ n, (∀ i, i < n → f i = g i) → sumI n f = sumI n g
  | 0, _ => rfl
  | n + 1, h => by rw [sumI, sumI, sumI_congr n (fun i hi => h i (by omega)), h n (by omega)]
theorem sumI_plus (f g : Nat → Int) : ∀ n, sumI n (fun i => f i + g i) = sumI n f + sumI n g
  | 0 => rfl
  | n + 1 => by rw [sumI, sumI, sumI, sumI_plus f g n]; omega
theorem sumI_zero : ∀ n, sumI n (fun _ => 0) = 0
  | 0 => rfl
  | n + 1 => by rw [sumI, sumI_zero n]; rfl
theorem sumI_mul (c : Int) (f : Nat → Int) : ∀ n, sumI n (fun i => c * f i) = c * sumI n f
  | 0 => by simp [sumI]
  | n + 1 => by rw [sumI, sumI, sumI_mul c f n, Int.mul_add]
theorem sumI_swap (f : Nat → Nat → Int) (n : Nat) : ∀ m, sumI m (fun j => sumI n (fun i => f i j)) = sumI n (fun i => sumI m (fun j => f i j))
  | 0 => (sumI_zero n).symm
  | m + 1 => by rw [sumI, sumI_swap f n m, ← sumI_plus]; rfl
theorem sumI_add (f : Nat → Int) (m : Nat) : ∀ n, sumI (m + n) f = sumI m f + sumI n (fun i => f (m + i))
  | 0 => by simp [sumI]
  | n + 1 => by rw [← Nat.add_assoc, sumI, sumI_add f m n, sumI, Int.add_assoc]
/-- A sum around a circle begins anywhere. -/
theorem sumI_rot (f : Nat → Int) {n s : Nat} (hs : s ≤ n) : sumI n (fun i => f ((i + s) % n)) = sumI n f := by
  obtain ⟨a, rfl⟩ : ∃ a, n = a + s := ⟨n - s, by omega⟩
  have h1 : sumI a (fun i => f ((i + s) % (a + s))) = sumI a (fun i => f (s + i)) := sumI_congr a (fun i hi => by rw [Nat.mod_eq_of_lt (by omega), Nat.add_comm])
  have h2 : sumI s (fun i => f ((a + i + s) % (a + s))) = sumI s f := sumI_congr s (fun i hi => by rw [show a + i + s = i + (a + s) by omega, Nat.add_mod_right, Nat.mod_eq_of_lt (by omega)])
  rw [sumI_add, h1, h2, Nat.add_comm a s, sumI_add f s a, Int.add_comm]
/-- One bit's part. -/
def eps (l : List UInt8) (i : Nat) : Int := if bitf l i = true then -1 else 1
/-- Agreements less disagreements for a shift, of the first places. -/
def agI (l : List UInt8) (sh : Nat) : Nat → Int
  | 0 => 0
  | i + 1 => agI l sh i + (if l[i]? = l[(i + sh) % l.length]? then 1 else -1)
theorem agI_bd (l : List UInt8) (sh : Nat) : ∀ i : Nat, -(i : Int) ≤ agI l sh i ∧ agI l sh i ≤ i
  | 0 => ⟨by simp [agI], by simp [agI]⟩
  | i + 1 => by
    have := agI_bd l sh i
    rw [agI]; split <;> omega
def agL (l : List UInt8) : Nat → List Int
  | 0 => []
  | k + 1 => agL l k ++ [agI l k l.length]
theorem agL_len (l : List UInt8) : ∀ n, (agL l n).length = n
  | 0 => rfl
  | n + 1 => by simp [agL, agL_len l n]
theorem agL_get (l : List UInt8) : ∀ n i, i < n → (agL l n)[i]? = some (agI l i l.length)
  | n + 1, i, h => by
    rw [agL]
    by_cases hi : i < n
    · rw [List.getElem?_append_left (by rw [agL_len]; exact hi)]; exact agL_get l n i hi
    · have : i = n := by omega
      subst this
      rw [List.getElem?_append_right (by rw [agL_len]; exact Nat.le_refl _), agL_len]; simp
theorem eps_mul {l : List UInt8} (hb : l.all isBit = true) {i j : Nat} (hi : i < l.length) (hj : j < l.length) : (if l[i]? = l[j]? then (1 : Int) else -1) = eps l i * eps l j := by
  rw [bit_get hb hi, bit_get hb hj, eps, eps]
  cases bitf l i <;> cases bitf l j <;> simp <;> decide
theorem agI_eps {l : List UInt8} (hb : l.all isBit = true) (hn : 0 < l.length) (sh : Nat) : ∀ i, i ≤ l.length → agI l sh i = sumI i (fun i => eps l i * eps l ((i + sh) % l.length))
  | 0, _ => rfl
  | i + 1, h => by
    rw [agI, sumI, agI_eps hb hn sh i (by omega), eps_mul hb (by omega) (Nat.mod_lt _ hn)]
theorem eps_sq (l : List UInt8) (i : Nat) : eps l i * eps l i = 1 := by unfold eps; split <;> decide
theorem sumI_one : ∀ n : Nat, sumI n (fun _ => 1) = n
  | 0 => rfl
  | n + 1 => by rw [sumI, sumI_one n]; omega
theorem ag_zero {l : List UInt8} (hb : l.all isBit = true) (hn : 0 < l.length) : agI l 0 l.length = l.length := by
  rw [agI_eps hb hn 0 _ (Nat.le_refl _)]
  refine (sumI_congr (g := fun _ => 1) _ fun i hi => ?_).trans (sumI_one _)
  rw [Nat.add_zero, Nat.mod_eq_of_lt hi, eps_sq]
/-- Agreements for a shift and the opposite one. -/
theorem ag_opp {l : List UInt8} (hb : l.all isBit = true) (hn : 0 < l.length) {i : Nat} (hi : i < l.length) : agI l ((l.length - i) % l.length) l.length = agI l i l.length := by
  rw [agI_eps hb hn _ _ (Nat.le_refl _), agI_eps hb hn _ _ (Nat.le_refl _)]
  rw [← sumI_rot (fun j => eps l j * eps l ((j + (l.length - i) % l.length) % l.length)) (Nat.le_of_lt hi)]
  refine sumI_congr _ fun j hj => ?_
  have h1 : ((j + i) % l.length + (l.length - i) % l.length) % l.length = j := by
    rw [← Nat.add_mod, show j + i + (l.length - i) = j + l.length by omega, Nat.add_mod_right, Nat.mod_eq_of_lt hj]
  simp only [h1]
  exact Int.mul_comm _ _
/-- The agreements for all shifts. -/
theorem ag_sum {l : List UInt8} (hb : l.all isBit = true) (hn : 0 < l.length) : sumI l.length (fun s => agI l s l.length) = sumI l.length (eps l) * sumI l.length (eps l) := by
  refine (sumI_congr (g := fun s => sumI l.length (fun i => eps l i * eps l ((i + s) % l.length))) _ fun s _ => agI_eps hb hn s _ (Nat.le_refl _)).trans ?_
  rw [sumI_swap (fun i s => eps l i * eps l ((i + s) % l.length)), ← sumI_mul]
  refine sumI_congr _ fun i hi => ?_
  rw [sumI_mul]
  have h1 : sumI l.length (fun s => eps l ((i + s) % l.length)) = sumI l.length (eps l) := by
    rw [← sumI_rot (eps l) (Nat.le_of_lt hi)]
    exact sumI_congr _ fun s _ => by rw [Nat.add_comm]
  rw [h1, Int.mul_comm]

noncomputable def b37 : Code := Tryd.f37.body.getD .skip
noncomputable def B37_0 : Code := (bodyC (bodyC (sndC (fstC (sndC (sndC (sndC b37)))))))
noncomputable def K37_0 : List It := .lp B37_0 :: .blk 0 :: .code (sndC (sndC (sndC (sndC b37)))) :: []
theorem xl37_0 {fi : FI} {env : Env} {σ : St} : exI TT fi K37_0 env σ = exI TT fi (.code B37_0 :: K37_0) env σ := by unfold K37_0; exact xI_lp
noncomputable def R37_0_0 : List It := .code (sndC (sndC (sndC (sndC b37)))) :: []
theorem eK37_0_0 : exitA 0 K37_0 = some R37_0_0 := rfl
noncomputable def B37_1 : Code := (bodyC (bodyC (sndC (fstC (sndC (sndC (bodyC (fstC (sndC (sndC (bodyC (bodyC (sndC (fstC (sndC (sndC (sndC b37)))))))))))))))))
noncomputable def K37_1 : List It := .lp B37_1 :: .blk 2 :: .code (sndC (sndC (sndC (bodyC (fstC (sndC (sndC (bodyC (bodyC (sndC (fstC (sndC (sndC (sndC b37)))))))))))))) :: .blk 1 :: .code (sndC (sndC (sndC (bodyC (bodyC (sndC (fstC (sndC (sndC (sndC b37)))))))))) :: K37_0
theorem xl37_1 {fi : FI} {env : Env} {σ : St} : exI TT fi K37_1 env σ = exI TT fi (.code B37_1 :: K37_1) env σ := by unfold K37_1; exact xI_lp
noncomputable def R37_1_2 : List It := .code (sndC (sndC (sndC (bodyC (fstC (sndC (sndC (bodyC (bodyC (sndC (fstC (sndC (sndC (sndC b37)))))))))))))) :: .blk 1 :: .code (sndC (sndC (sndC (bodyC (bodyC (sndC (fstC (sndC (sndC (sndC b37)))))))))) :: K37_0
theorem eK37_1_2 : exitA 2 K37_1 = some R37_1_2 := rfl
noncomputable def R37_1_1 : List It := .code (sndC (sndC (sndC (bodyC (bodyC (sndC (fstC (sndC (sndC (sndC b37)))))))))) :: K37_0
theorem eK37_1_1 : exitA 1 K37_1 = some R37_1_1 := rfl
theorem eK37_1_0 : exitA 0 K37_1 = some R37_0_0 := rfl
set_option maxHeartbeats 1000000 in
theorem i37 (l : List UInt8) (n sh : Nat) (hn : n = l.length) (hl : n ≤ 400) (hsh : sh < n) (V : AV) (σ : St) : ∀ m i : Nat, i + m = n → exI TT (FI.of Tryd.f37 (TT.an 37)) K37_1 [(0, .str l), (4, .int .i64 n), (5, V), (6, .int .i64 sh), (7, .int .i64 (agI l sh i)), (19, .int .i64 n), (20, .int .i64 sh), (23, .int .i64 n), (24, .int .i64 i)] σ = exI TT (FI.of Tryd.f37 (TT.an 37)) K37_1 [(0, .str l), (4, .int .i64 n), (5, V), (6, .int .i64 sh), (7, .int .i64 (agI l sh n)), (19, .int .i64 n), (20, .int .i64 sh), (23, .int .i64 n), (24, .int .i64 n)] σ := by
  intro m
  induction m with
  | zero =>
    intro i hi
    obtain rfl : i = n := by omega
    rfl
  | succ m ih =>
    intro i hi
    have h1 := ih (i + 1) (by omega)
    rw [← h1]
    clear h1 ih
    obtain ⟨x, hx⟩ := get_at (l := l) (i := i) (by omega)
    have hj : (i + sh) % n < n := Nat.mod_lt _ (by omega)
    obtain ⟨y, hy⟩ := get_at (l := l) (i := (i + sh) % n) (by omega)
    have hst : agI l sh (i + 1) = agI l sh i + (if x = y then 1 else -1) := by
      rw [agI, ← hn, hx, hy]; simp
    have hbd := agI_bd l sh i
    have hlt : (i : Int) < (n : Int) := by omega
    have hnle : ¬ n ≤ i := by omega
    have hil : i < l.length := by omega
    have hjl : (i + sh) % n < l.length := by omega
    have hw := wrapS (n := i) (by omega)
    have hws : wrapA .i64 ((i : Int) + (sh : Int)) = ((i + sh : Nat) : Int) := by rw [wrapA_id (by omega) (by omega)]; omega
    have hmod : ((i + sh : Nat) : Int).tmod (n : Int) = ((modN (i + sh) n : Nat) : Int) := rfl
    have hmd : modN (i + sh) n = (i + sh) % n := rfl
    have hi1 : ((i + 1 : Nat) : Int) = (i : Int) + 1 := by omega
    have hn0 : ¬ (n : Int) = 0 := by omega
    have hn1 : ¬ n = 0 := by omega
    rw [hi1, hst]
    rw [← hmd] at hy hjl hj
    have hjz : ((modN (i + sh) n : Nat) : Int) < (l.length : Int) := by omega
    have hga : ∀ h : i < l.length, l[i]'h = x := fun h => by
      have e := List.getElem?_eq_getElem h
      rw [hx] at e; exact (Option.some.inj e).symm
    have hgb : ∀ h : modN (i + sh) n < l.length, l[modN (i + sh) n]'h = y := fun h => by
      have e := List.getElem?_eq_getElem h
      rw [hy] at e; exact (Option.some.inj e).symm
    generalize modN (i + sh) n = j at *
    generalize agI l sh i = z at *
    generalize i + sh = is at *
    by_cases hb : x = y
    · subst hb
      have hwz : wrapA .i64 (z + 1) = z + 1 := wrapA_id (by omega) (by omega)
      rw [if_pos rfl]
      conv => lhs; rw [fi37, xl37_1]; simp only [B37_1, b37, Tryd.f37, Option.getD, fstC, sndC, bodyC, thnC, elsC]
      rw [fi37]
      simp [xI_seq, xI_region, xI_ret, regA, regOps, runOps, opStep, wantedA, opA, evo, evos, calleeA, lk, nif_eq, putE, paramsE, valS, val2, keepE, restrict, finA, resA, binA, binInt, ofConst, ofConst1, loadA, TK.isAgg, asVar, unA, builtinA, lenOpA, lenA, ileb_cast, ileb_eq, ieqb_dec, indexAddrA, inB_dec, evPairs, storeA, AV.cellsOf, pairsOf, xI_nil, binBool, gcE, evOpt, tagZ, xI_block, xI_loopH, xI_condM, xI_exitM, xI_skip, xI_blk, exitA, ty2, ty3, ty4, ty5, ty9, ty24, eK37_0_0, eK37_1_2, eK37_1_1, eK37_1_0, runTr, pairsOk, pairOk, lstAt, lastOf, sameVal, AV.eqv, eqvs, eqvs_ints, regOps, blt_dec, cond_true, cond_false, fieldAddrA, allOne, AV.one, buildA, sizesOf, fillA, putCells, n_push, indexA, ty2, ty27, ty9, ty5, ty3, ty36, hx, hy, hga, hgb, hlt, hnle, hil, hjl, hjz, hw, hws, hmod, hn0, hn1, hwz]
    · have hwz : wrapA .i64 (z - 1) = z + -1 := by rw [wrapA_id (by omega) (by omega)]; omega
      have hbn : ¬ x.toNat = y.toNat := fun e => hb (UInt8.toNat_inj.1 e)
      have hbt : ¬ (x.toNat : Int) = (y.toNat : Int) := by omega
      rw [if_neg hb]
      conv => lhs; rw [fi37, xl37_1]; simp only [B37_1, b37, Tryd.f37, Option.getD, fstC, sndC, bodyC, thnC, elsC]
      rw [fi37]
      simp [xI_seq, xI_region, xI_ret, regA, regOps, runOps, opStep, wantedA, opA, evo, evos, calleeA, lk, nif_eq, putE, paramsE, valS, val2, keepE, restrict, finA, resA, binA, binInt, ofConst, ofConst1, loadA, TK.isAgg, asVar, unA, builtinA, lenOpA, lenA, ileb_cast, ileb_eq, ieqb_dec, indexAddrA, inB_dec, evPairs, storeA, AV.cellsOf, pairsOf, xI_nil, binBool, gcE, evOpt, tagZ, xI_block, xI_loopH, xI_condM, xI_exitM, xI_skip, xI_blk, exitA, ty2, ty3, ty4, ty5, ty9, ty24, eK37_0_0, eK37_1_2, eK37_1_1, eK37_1_0, runTr, pairsOk, pairOk, lstAt, lastOf, sameVal, AV.eqv, eqvs, eqvs_ints, regOps, blt_dec, cond_true, cond_false, fieldAddrA, allOne, AV.one, buildA, sizesOf, fillA, putCells, n_push, indexA, ty2, ty27, ty9, ty5, ty3, ty36, hx, hy, hga, hgb, hlt, hnle, hil, hjl, hjz, hw, hws, hmod, hn0, hn1, hwz, hbn, hbt]
set_option maxHeartbeats 1000000 in
theorem l37 (l : List UInt8) (n : Nat) (hn : n = l.length) (hl : n ≤ 400) : ∀ (m sh : Nat) (σ : St) (b : Nat), sh + m = n → Row σ b (agL l sh) →
    ∃ σ' b', exI TT (FI.of Tryd.f37 (TT.an 37)) K37_0 [(0, .str l), (4, .int .i64 n), (5, .sl b 0 sh sh), (19, .int .i64 n), (20, .int .i64 sh)] σ = some (.tup [.sl b' 0 n n, .bool true], σ') ∧ Row σ' b' (agL l n) := by
  intro m
  induction m with
  | zero =>
    intro sh σ b hsh hr
    obtain rfl : sh = n := by omega
    refine ⟨σ, b, ?_, hr⟩
    rw [fi37]
    rw [xl37_0]
    simp only [B37_0, b37, Tryd.f37, Option.getD, fstC, sndC, bodyC, thnC, elsC]
    simp [xI_seq, xI_region, xI_ret, regA, regOps, runOps, opStep, wantedA, opA, evo, evos, calleeA, lk, nif_eq, putE, paramsE, valS, val2, keepE, restrict, finA, resA, binA, binInt, ofConst, ofConst1, loadA, TK.isAgg, asVar, unA, builtinA, lenOpA, lenA, ileb_cast, ileb_eq, ieqb_dec, indexAddrA, inB_dec, evPairs, storeA, AV.cellsOf, pairsOf, xI_nil, binBool, gcE, evOpt, tagZ, xI_block, xI_loopH, xI_condM, xI_exitM, xI_skip, xI_blk, exitA, ty2, ty3, ty4, ty5, ty9, ty24, eK37_0_0, eK37_1_2, eK37_1_1, eK37_1_0]
    simp only [R37_0_0, b37, Tryd.f37, Option.getD, fstC, sndC, bodyC, thnC, elsC]
    simp [xI_seq, xI_region, xI_ret, regA, regOps, runOps, opStep, wantedA, opA, evo, evos, calleeA, lk, nif_eq, putE, paramsE, valS, val2, keepE, restrict, finA, resA, binA, binInt, ofConst, ofConst1, loadA, TK.isAgg, asVar, unA, builtinA, lenOpA, lenA, ileb_cast, ileb_eq, ieqb_dec, indexAddrA, inB_dec, evPairs, storeA, AV.cellsOf, pairsOf, xI_nil, binBool, gcE, evOpt, tagZ, xI_block, xI_loopH, xI_condM, xI_exitM, xI_skip, xI_blk, exitA, ty2, ty3, ty4, ty5, ty9, ty24, eK37_0_0, eK37_1_2, eK37_1_1, eK37_1_0]
  | succ m ih =>
    intro sh σ b hsh hr
    have h0 := i37 l n sh hn hl (by omega) (.sl b 0 sh sh) σ n 0 (by omega)
    obtain ⟨σ1, ha, hr1, hn1, _⟩ := append_row (x := agI l sh n) ty24 ty2 hr (n := sh) (by rw [agL_len]) (by omega)
    have hr2 : Row σ1 (σ.n + 1) (agL l (sh + 1)) := by rw [agL, ← hn]; exact hr1
    obtain ⟨σ', b', h1, h2⟩ := ih (sh + 1) σ1 (σ.n + 1) (by omega) hr2
    refine ⟨σ', b', ?_, h2⟩
    rw [← h1]
    clear h1 h2 ih
    have hlt : (sh : Int) < (n : Int) := by omega
    have hnle : ¬ n ≤ sh := by omega
    have hw := wrapS (n := sh) (by omega)
    have hi1 : ((sh + 1 : Nat) : Int) = (sh : Int) + 1 := by omega
    rw [hi1]
    simp only [agI, show ((0 : Nat) : Int) = 0 from rfl, Int.natCast_zero] at h0
    generalize agI l sh n = z at *
    conv => lhs; rw [fi37, xl37_0]; simp only [B37_0, b37, Tryd.f37, Option.getD, fstC, sndC, bodyC, thnC, elsC]
    rw [fi37] at h0 ⊢
    simp [xI_seq, xI_region, xI_ret, regA, regOps, runOps, opStep, wantedA, opA, evo, evos, calleeA, lk, nif_eq, putE, paramsE, valS, val2, keepE, restrict, finA, resA, binA, binInt, ofConst, ofConst1, loadA, TK.isAgg, asVar, unA, builtinA, lenOpA, lenA, ileb_cast, ileb_eq, ieqb_dec, indexAddrA, inB_dec, evPairs, storeA, AV.cellsOf, pairsOf, xI_nil, binBool, gcE, evOpt, tagZ, xI_block, xI_loopH, xI_condM, xI_exitM, xI_skip, xI_blk, exitA, ty2, ty3, ty4, ty5, ty9, ty24, eK37_0_0, eK37_1_2, eK37_1_1, eK37_1_0, runTr, pairsOk, pairOk, lstAt, lastOf, sameVal, AV.eqv, eqvs, eqvs_ints, regOps, blt_dec, cond_true, cond_false, fieldAddrA, allOne, AV.one, buildA, sizesOf, fillA, putCells, n_push, indexA, ty2, ty27, ty9, ty5, ty3, ty36, hlt, hnle]
    refine h0.trans ?_
    conv => lhs; rw [xl37_1]; simp only [B37_1, b37, Tryd.f37, Option.getD, fstC, sndC, bodyC, thnC, elsC]
    simp [xI_seq, xI_region, xI_ret, regA, regOps, runOps, opStep, wantedA, opA, evo, evos, calleeA, lk, nif_eq, putE, paramsE, valS, val2, keepE, restrict, finA, resA, binA, binInt, ofConst, ofConst1, loadA, TK.isAgg, asVar, unA, builtinA, lenOpA, lenA, ileb_cast, ileb_eq, ieqb_dec, indexAddrA, inB_dec, evPairs, storeA, AV.cellsOf, pairsOf, xI_nil, binBool, gcE, evOpt, tagZ, xI_block, xI_loopH, xI_condM, xI_exitM, xI_skip, xI_blk, exitA, ty2, ty3, ty4, ty5, ty9, ty24, eK37_0_0, eK37_1_2, eK37_1_1, eK37_1_0, runTr, pairsOk, pairOk, lstAt, lastOf, sameVal, AV.eqv, eqvs, eqvs_ints, regOps, blt_dec, cond_true, cond_false, fieldAddrA, allOne, AV.one, buildA, sizesOf, fillA, putCells, n_push, indexA, ty2, ty27, ty9, ty5, ty3, ty36]
    simp only [R37_1_2, b37, Tryd.f37, Option.getD, fstC, sndC, bodyC, thnC, elsC]
    simp [xI_seq, xI_region, xI_ret, regA, regOps, runOps, opStep, wantedA, opA, evo, evos, calleeA, lk, nif_eq, putE, paramsE, valS, val2, keepE, restrict, finA, resA, binA, binInt, ofConst, ofConst1, loadA, TK.isAgg, asVar, unA, builtinA, lenOpA, lenA, ileb_cast, ileb_eq, ieqb_dec, indexAddrA, inB_dec, evPairs, storeA, AV.cellsOf, pairsOf, xI_nil, binBool, gcE, evOpt, tagZ, xI_block, xI_loopH, xI_condM, xI_exitM, xI_skip, xI_blk, exitA, ty2, ty3, ty4, ty5, ty9, ty24, eK37_0_0, eK37_1_2, eK37_1_1, eK37_1_0, runTr, pairsOk, pairOk, lstAt, lastOf, sameVal, AV.eqv, eqvs, eqvs_ints, regOps, blt_dec, cond_true, cond_false, fieldAddrA, allOne, AV.one, buildA, sizesOf, fillA, putCells, n_push, indexA, ty2, ty27, ty9, ty5, ty3, ty36, bsI1, ha, hw]
theorem c37 (l : List UInt8) (hl : l.length ≤ 400) (hb : l.all isBit = true) (h0 : l ≠ []) (σ : St) : callI TT 37 [.str l] σ = some (.tup [.lst l.length (ints (agL l l.length)), .bool true], σ) := by
  have hF : FnF TT 37 [.str l] (.tup [.lst l.length (ints (agL l l.length)), .bool true]) := by
    obtain ⟨σ', b', h1, h2⟩ := l37 l l.length rfl hl l.length 0 ((⟨[], 0⟩ : St).push ⟨ints [], 1, false⟩) 0 (by omega) ⟨false, rfl, by decide⟩
    have c1 := v63 l (by omega) ⟨[], 0⟩ [.str l] rfl
    have hok : isBits l = true := by simp [isBits, hl, hb]
    rw [hok] at c1
    have hz : binStr .eql l [] = some (.bool false) := by simp [binStr, h0]
    refine FnF.mk fn37 rfl md37 ⟨σ', .tup [.sl b' 0 l.length l.length, .bool true], ?_, ?_⟩
    · simp only [show ((0 : Nat) : Int) = 0 from rfl, Int.natCast_zero] at h1
      rw [← h1, fi37]
      simp [xI_seq, xI_region, xI_ret, regA, regOps, runOps, opStep, wantedA, opA, evo, evos, calleeA, lk, nif_eq, putE, paramsE, valS, val2, keepE, restrict, finA, resA, binA, binInt, ofConst, ofConst1, loadA, TK.isAgg, asVar, unA, builtinA, lenOpA, lenA, ileb_cast, ileb_eq, ieqb_dec, indexAddrA, inB_dec, evPairs, storeA, AV.cellsOf, pairsOf, xI_nil, binBool, gcE, evOpt, tagZ, xI_block, xI_loopH, xI_condM, xI_exitM, xI_skip, xI_blk, exitA, ty2, ty3, ty4, ty5, ty9, ty24, eK37_0_0, eK37_1_2, eK37_1_1, eK37_1_0, runTr, pairsOk, pairOk, lstAt, lastOf, sameVal, AV.eqv, eqvs, eqvs_ints, regOps, blt_dec, cond_true, cond_false, fieldAddrA, allOne, AV.one, buildA, sizesOf, fillA, putCells, n_push, indexA, ty2, ty27, ty9, ty5, ty3, ty36, c1, bsI0, hz, h0]
      rfl
    · have h3 := h2.frz (d := 3) (n := l.length) (by rw [agL_len]) (Nat.le_refl _)
      show (match mapO (frzV σ' 5) [.sl b' 0 l.length l.length, .bool true] with | some l => some (AV.tup l) | none => none) = _
      rw [mapO_cons h3 (mapO_cons rfl rfl)]
  exact hF σ _ rfl rfl

open Go.Wd
def blen (x : Nat) : Nat := if x = 0 then 0 else Nat.log2 x + 1
set_option maxRecDepth 100000 in
theorem len_tab2 : ((List.range 512).all fun x => lenOk (x : Nat) (blen x : Nat)) = true := by kernel_rfl
theorem v130s {x : Nat} (h : x < 512) : FnV TT 130 [.int .u64 x] (.int .i64 (blen x : Nat)) := len_of (List.all_eq_true.1 len_tab2 x (List.mem_range.2 h))
theorem blen_lt {x d : Nat} (h : x < 2 ^ d) : blen x ≤ d := by
  unfold blen; split
  · omega
  · rename_i h0
    have := (Nat.log2_lt h0).2 h
    omega
theorem blen_ge {x d : Nat} (h : 2 ^ d ≤ x) (h2 : x < 2 ^ (d + 1)) : blen x = d + 1 := by
  have h0 : x ≠ 0 := by have := Nat.two_pow_pos d; omega
  have h3 := (Nat.log2_lt h0).2 h2
  have h4 := (Nat.le_log2 h0).2 h
  unfold blen; rw [if_neg h0]; omega
theorem v84s {x : Nat} (hx : x < 512) : FnV TT 84 [.int .i64 x] (.int .i64 ((blen x : Nat) - 1 : Int)) := by
  refine FnV.mk fn84 rfl md84 ⟨⟨[], 0⟩, ?_⟩ (fun _ => rfl) rfl
  have h : callI TT 130 [.int .u64 x] ⟨[], 0⟩ = some (.int .i64 (blen x : Nat), ⟨[], 0⟩) := v130s hx _ _ rfl
  have h1 := n_wrapu (a := x) (by omega)
  have hb := blen_lt (x := x) (d := 9) (by omega)
  have h2 : wrapA .i64 ((blen x : Int) - 1) = (blen x : Int) - 1 := wrapA_id (by omega) (by omega)
  rw [fi84]
  simp [xI_seq, xI_region, xI_ret, regA, regOps, runOps, opStep, wantedA, opA, evo, evos, calleeA, lk, nif_eq, putE, paramsE, valS, val2, keepE, restrict, finA, resA, binA, binInt, ofConst, ofConst1, loadA, TK.isAgg, asVar, unA, builtinA, lenOpA, lenA, ileb_cast, ileb_eq, ieqb_dec, indexAddrA, inB_dec, evPairs, storeA, AV.cellsOf, pairsOf, xI_nil, binBool, gcE, evOpt, tagZ, xI_block, xI_loopH, xI_condM, xI_exitM, xI_skip, xI_blk, exitA, ty2, ty3, ty141, h, h1, h2, convA]
/-- The remainder of twice a remainder. -/
def nxt (p d r : Nat) : Nat := if 2 ^ d ≤ 2 * r then xorN (2 * r) p else 2 * r
theorem top_bit {a d : Nat} (h : 2 ^ d ≤ a) (h2 : a < 2 ^ (d + 1)) : a.testBit d = true := by
  rw [Nat.testBit_eq_decide_div_mod_eq]
  have : a / 2 ^ d = 1 := by
    have hp := Nat.two_pow_pos d
    have e : 2 ^ (d + 1) = 2 ^ d * 2 := Nat.pow_succ 2 d
    rw [Nat.div_eq_of_lt_le (k := 1)] <;> omega
  rw [this]; rfl
theorem xor_low {a p d : Nat} (ha : 2 ^ d ≤ a) (ha2 : a < 2 ^ (d + 1)) (hp : 2 ^ d ≤ p) (hp2 : p < 2 ^ (d + 1)) : xorN a p < 2 ^ d := by
  have h1 : xorN a p < 2 ^ (d + 1) := Nat.xor_lt_two_pow ha2 hp2
  refine Nat.lt_of_not_le fun h => ?_
  have h2 := top_bit h h1
  have h3 := top_bit ha ha2
  have h4 := top_bit hp hp2
  rw [show (xorN a p).testBit d = (a.testBit d ^^ p.testBit d) from Nat.testBit_xor a p d, h3, h4] at h2
  exact absurd h2 (by decide)
theorem nxt_lt {p d r : Nat} (hp : 2 ^ d ≤ p) (hp2 : p < 2 ^ (d + 1)) (hr : r < 2 ^ d) : nxt p d r < 2 ^ d := by
  have e : 2 ^ (d + 1) = 2 ^ d * 2 := Nat.pow_succ 2 d
  unfold nxt; split
  · exact xor_low (by omega) (by omega) hp hp2
  · omega

noncomputable def b129 : Code := Tryd.f129.body.getD .skip
noncomputable def B129_0 : Code := (bodyC (bodyC (fstC (sndC (sndC b129)))))
noncomputable def K129_0 : List It := .lp B129_0 :: .blk 0 :: .code (sndC (sndC (sndC b129))) :: []
theorem xl129_0 {fi : FI} {env : Env} {σ : St} : exI TT fi K129_0 env σ = exI TT fi (.code B129_0 :: K129_0) env σ := by unfold K129_0; exact xI_lp
noncomputable def R129_0_0 : List It := .code (sndC (sndC (sndC b129))) :: []
theorem eK129_0_0 : exitA 0 K129_0 = some R129_0_0 := rfl
theorem z129 (p d a q : Nat) (hd8 : d ≤ 7) (hp : 2 ^ d ≤ p) (hp2 : p < 2 ^ (d + 1)) (ha : a < 2 ^ d) (σ : St) :
    exI TT (FI.of Tryd.f129 (TT.an 129)) K129_0 [(0, .int .i64 a), (1, .int .i64 p), (6, .int .i64 q)] σ = some (.tup [.int .i64 q, .int .i64 a], σ) := by
  have e8 : 2 ^ (d + 1) ≤ 2 ^ 8 := Nat.pow_le_pow_right (by decide) (by omega)
  have e9 : 2 ^ (d + 1) = 2 ^ d * 2 := Nat.pow_succ 2 d
  have c1 := v84s (x := a) (by omega) σ [.int .i64 a] rfl
  have c2 := v84s (x := p) (by omega) σ [.int .i64 p] rfl
  rw [blen_ge hp hp2] at c2
  have hb := blen_lt ha
  have h1 : ¬ (((d + 1 : Nat) : Int) - 1 ≤ (blen a : Int) - 1) := by omega
  generalize hz : ((d + 1 : Nat) : Int) - 1 = z at *
  generalize hy : (blen a : Int) - 1 = y at *
  rw [fi129]
  rw [xl129_0]
  simp only [B129_0, b129, Tryd.f129, Option.getD, fstC, sndC, bodyC, thnC, elsC]
  simp [xI_seq, xI_region, xI_ret, regA, regOps, runOps, opStep, wantedA, opA, evo, evos, calleeA, lk, nif_eq, putE, paramsE, valS, val2, keepE, restrict, finA, resA, binA, binInt, ofConst, ofConst1, loadA, TK.isAgg, asVar, unA, builtinA, lenOpA, lenA, ileb_cast, ileb_eq, ieqb_dec, indexAddrA, inB_dec, evPairs, storeA, AV.cellsOf, pairsOf, xI_nil, binBool, gcE, evOpt, tagZ, xI_block, xI_loopH, xI_condM, xI_exitM, xI_skip, xI_blk, exitA, ty2, ty3, eK129_0_0, c1, c2, h1]
  simp only [R129_0_0, b129, Tryd.f129, Option.getD, fstC, sndC, bodyC, thnC, elsC]
  simp [xI_seq, xI_region, xI_ret, regA, regOps, runOps, opStep, wantedA, opA, evo, evos, calleeA, lk, nif_eq, putE, paramsE, valS, val2, keepE, restrict, finA, resA, binA, binInt, ofConst, ofConst1, loadA, TK.isAgg, asVar, unA, builtinA, lenOpA, lenA, ileb_cast, ileb_eq, ieqb_dec, indexAddrA, inB_dec, evPairs, storeA, AV.cellsOf, pairsOf, xI_nil, binBool, gcE, evOpt, tagZ, xI_block, xI_loopH, xI_condM, xI_exitM, xI_skip, xI_blk, exitA, ty2, ty3, eK129_0_0]
theorem y129 (p d a : Nat) (hd8 : d ≤ 7) (hp : 2 ^ d ≤ p) (hp2 : p < 2 ^ (d + 1)) (h : 2 ^ d ≤ a) (ha : a < 2 ^ (d + 1)) (σ : St) :
    exI TT (FI.of Tryd.f129 (TT.an 129)) K129_0 [(0, .int .i64 a), (1, .int .i64 p), (6, .int .i64 0)] σ = exI TT (FI.of Tryd.f129 (TT.an 129)) K129_0 [(0, .int .i64 (xorN a p : Nat)), (1, .int .i64 p), (6, .int .i64 1)] σ := by
  have e8 : 2 ^ (d + 1) ≤ 2 ^ 8 := Nat.pow_le_pow_right (by decide) (by omega)
  have c1 := v84s (x := a) (by omega) σ [.int .i64 a] rfl
  have c2 := v84s (x := p) (by omega) σ [.int .i64 p] rfl
  rw [blen_ge hp hp2] at c2
  rw [blen_ge h ha] at c1
  have s1 : wrapA .i64 (shlA (1 : Int) (min 0 IntKind.i64.bits)) = 1 := by decide
  have s2 : wrapA .i64 (shlA (p : Int) (min 0 IntKind.i64.bits)) = (p : Int) := by
    have := sh_l (a := p) (b := 0) (by omega) (by omega)
    rw [this]; show ((p * 2 ^ 0 : Nat) : Int) = _; simp
  have s1' : wrapA .i64 (shlA (1 : Int) 0) = 1 := by decide
  have s2' : wrapA .i64 (shlA (p : Int) 0) = (p : Int) := s2
  have s3 := n_xor (a := a) (b := p) (by omega) (by omega)
  have s4 : bitsA .or .i64 0 1 = some (.int .i64 1) := rfl
  have s5 : wrapA .i64 (0 : Int) = 0 := by decide
  generalize hzz : ((d + 1 : Nat) : Int) - 1 = z at *
  conv => lhs; rw [fi129, xl129_0]; simp only [B129_0, b129, Tryd.f129, Option.getD, fstC, sndC, bodyC, thnC, elsC]
  rw [fi129]
  simp [xI_seq, xI_region, xI_ret, regA, regOps, runOps, opStep, wantedA, opA, evo, evos, calleeA, lk, nif_eq, putE, paramsE, valS, val2, keepE, restrict, finA, resA, binA, binInt, ofConst, ofConst1, loadA, TK.isAgg, asVar, unA, builtinA, lenOpA, lenA, ileb_cast, ileb_eq, ieqb_dec, indexAddrA, inB_dec, evPairs, storeA, AV.cellsOf, pairsOf, xI_nil, binBool, gcE, evOpt, tagZ, xI_block, xI_loopH, xI_condM, xI_exitM, xI_skip, xI_blk, exitA, ty2, ty3, eK129_0_0, c1, c2, s1, s2, s1', s2', s3, s4, s5]
theorem v129 (p d a : Nat) (hd8 : d ≤ 7) (hp : 2 ^ d ≤ p) (hp2 : p < 2 ^ (d + 1)) (ha : a < 2 ^ (d + 1)) : FnV TT 129 [.int .i64 a, .int .i64 p] (.tup [.int .i64 (if 2 ^ d ≤ a then 1 else 0 : Nat), .int .i64 (if 2 ^ d ≤ a then xorN a p else a : Nat)]) := by
  refine FnV.mk fn129 rfl md129 ⟨⟨[], 0⟩, ?_⟩ (fun _ => rfl) rfl
  by_cases h : 2 ^ d ≤ a
  · rw [if_pos h, if_pos h]
    have hz := (y129 p d a hd8 hp hp2 h ha ⟨[], 0⟩).trans (z129 p d (xorN a p) 1 hd8 hp hp2 (xor_low h ha hp hp2) ⟨[], 0⟩)
    rw [← hz, fi129]
    simp [xI_seq, xI_region, xI_ret, regA, regOps, runOps, opStep, wantedA, opA, evo, evos, calleeA, lk, nif_eq, putE, paramsE, valS, val2, keepE, restrict, finA, resA, binA, binInt, ofConst, ofConst1, loadA, TK.isAgg, asVar, unA, builtinA, lenOpA, lenA, ileb_cast, ileb_eq, ieqb_dec, indexAddrA, inB_dec, evPairs, storeA, AV.cellsOf, pairsOf, xI_nil, binBool, gcE, evOpt, tagZ, xI_block, xI_loopH, xI_condM, xI_exitM, xI_skip, xI_blk, exitA, ty2, ty3, eK129_0_0]
    rfl
  · rw [if_neg h, if_neg h]
    have hz := z129 p d a 0 hd8 hp hp2 (by omega) ⟨[], 0⟩
    rw [← hz, fi129]
    simp [xI_seq, xI_region, xI_ret, regA, regOps, runOps, opStep, wantedA, opA, evo, evos, calleeA, lk, nif_eq, putE, paramsE, valS, val2, keepE, restrict, finA, resA, binA, binInt, ofConst, ofConst1, loadA, TK.isAgg, asVar, unA, builtinA, lenOpA, lenA, ileb_cast, ileb_eq, ieqb_dec, indexAddrA, inB_dec, evPairs, storeA, AV.cellsOf, pairsOf, xI_nil, binBool, gcE, evOpt, tagZ, xI_block, xI_loopH, xI_condM, xI_exitM, xI_skip, xI_blk, exitA, ty2, ty3, eK129_0_0]
    rfl

noncomputable def b83 : Code := Tryd.f83.body.getD .skip
noncomputable def B83_0 : Code := (bodyC (bodyC (fstC (sndC (sndC (sndC b83))))))
noncomputable def K83_0 : List It := .lp B83_0 :: .blk 0 :: .code (sndC (sndC (sndC (sndC b83)))) :: []
theorem xl83_0 {fi : FI} {env : Env} {σ : St} : exI TT fi K83_0 env σ = exI TT fi (.code B83_0 :: K83_0) env σ := by unfold K83_0; exact xI_lp
noncomputable def R83_0_0 : List It := .code (sndC (sndC (sndC (sndC b83)))) :: []
theorem eK83_0_0 : exitA 0 K83_0 = some R83_0_0 := rfl
/-- How often 2 is multiplied until the remainder is 1. -/
def ordI (p d : Nat) : Nat → Nat → Nat → Option Nat
  | 0, _, _ => none
  | k + 1, r, n => if r = 1 then some n else ordI p d k (nxt p d r) (n + 1)
theorem l83 (p d : Nat) (hd8 : d ≤ 7) (hp : 2 ^ d ≤ p) (hp2 : p < 2 ^ (d + 1)) (σ : St) : ∀ (k r n m : Nat), r < 2 ^ d → n + k ≤ 100000 → ordI p d k r n = some m →
    exI TT (FI.of Tryd.f83 (TT.an 83)) K83_0 [(0, .int .i64 p), (4, .int .i64 r), (5, .int .i64 n)] σ = some (.int .i64 m, σ) := by
  have e8 : 2 ^ (d + 1) ≤ 2 ^ 8 := Nat.pow_le_pow_right (by decide) (by omega)
  have e9 : 2 ^ (d + 1) = 2 ^ d * 2 := Nat.pow_succ 2 d
  intro k
  induction k with
  | zero => intro r n m hr hn h; cases h
  | succ k ih =>
    intro r n m hr hn h
    rw [ordI] at h
    by_cases h1 : r = 1
    · rw [if_pos h1] at h
      cases h
      have h1' : (r : Int) = 1 := by omega
      rw [fi83]
      rw [xl83_0]
      simp only [B83_0, b83, Tryd.f83, Option.getD, fstC, sndC, bodyC, thnC, elsC]
      simp [xI_seq, xI_region, xI_ret, regA, regOps, runOps, opStep, wantedA, opA, evo, evos, calleeA, lk, nif_eq, putE, paramsE, valS, val2, keepE, restrict, finA, resA, binA, binInt, ofConst, ofConst1, loadA, TK.isAgg, asVar, unA, builtinA, lenOpA, lenA, ileb_cast, ileb_eq, ieqb_dec, indexAddrA, inB_dec, evPairs, storeA, AV.cellsOf, pairsOf, xI_nil, binBool, gcE, evOpt, tagZ, xI_block, xI_loopH, xI_condM, xI_exitM, xI_skip, xI_blk, exitA, ty2, eK83_0_0, h1, h1']
      simp only [R83_0_0, b83, Tryd.f83, Option.getD, fstC, sndC, bodyC, thnC, elsC]
      simp [xI_seq, xI_region, xI_ret, regA, regOps, runOps, opStep, wantedA, opA, evo, evos, calleeA, lk, nif_eq, putE, paramsE, valS, val2, keepE, restrict, finA, resA, binA, binInt, ofConst, ofConst1, loadA, TK.isAgg, asVar, unA, builtinA, lenOpA, lenA, ileb_cast, ileb_eq, ieqb_dec, indexAddrA, inB_dec, evPairs, storeA, AV.cellsOf, pairsOf, xI_nil, binBool, gcE, evOpt, tagZ, xI_block, xI_loopH, xI_condM, xI_exitM, xI_skip, xI_blk, exitA, ty2, eK83_0_0]
    · rw [if_neg h1] at h
      have h2 := ih (nxt p d r) (n + 1) m (nxt_lt hp hp2 hr) (by omega) h
      have c1 := v129 p d (2 * r) hd8 hp hp2 (by omega) σ [.int .i64 (2 * r : Nat), .int .i64 p] rfl
      rw [show (if 2 ^ d ≤ 2 * r then xorN (2 * r) p else 2 * r) = nxt p d r from rfl] at c1
      have h1' : ¬ (r : Int) = 1 := by omega
      have s1 : wrapA .i64 (shlA (r : Int) (min 1 IntKind.i64.bits)) = ((2 * r : Nat) : Int) := by
        rw [sh_l (by decide) (by omega)]
        show ((r * 2 ^ 1 : Nat) : Int) = _; omega
      have hw := wrapS (n := n) (by omega)
      rw [show ((n + 1 : Nat) : Int) = (n : Int) + 1 by omega] at h2
      generalize 2 * r = rr at *
      generalize nxt p d r = nx at *
      rw [fi83] at h2 ⊢
      rw [xl83_0]
      simp only [B83_0, b83, Tryd.f83, Option.getD, fstC, sndC, bodyC, thnC, elsC]
      simp [xI_seq, xI_region, xI_ret, regA, regOps, runOps, opStep, wantedA, opA, evo, evos, calleeA, lk, nif_eq, putE, paramsE, valS, val2, keepE, restrict, finA, resA, binA, binInt, ofConst, ofConst1, loadA, TK.isAgg, asVar, unA, builtinA, lenOpA, lenA, ileb_cast, ileb_eq, ieqb_dec, indexAddrA, inB_dec, evPairs, storeA, AV.cellsOf, pairsOf, xI_nil, binBool, gcE, evOpt, tagZ, xI_block, xI_loopH, xI_condM, xI_exitM, xI_skip, xI_blk, exitA, ty2, eK83_0_0, h1, h1', s1, c1, hw]
      exact h2
theorem v83 (p d m : Nat) (hd : 1 ≤ d) (hd8 : d ≤ 7) (hp : 2 ^ d ≤ p) (hp2 : p < 2 ^ (d + 1)) (h : ordI p d 300 (nxt p d 1) 1 = some m) : FnV TT 83 [.int .i64 p] (.int .i64 m) := by
  have e2 : 2 ^ 1 ≤ 2 ^ d := Nat.pow_le_pow_right (by decide) hd
  have h1 := l83 p d hd8 hp hp2 ⟨[], 0⟩ 300 (nxt p d 1) 1 m (nxt_lt hp hp2 (by omega)) (by omega) h
  have c1 := v129 p d 2 hd8 hp hp2 (by have e9 : 2 ^ (d + 1) = 2 ^ d * 2 := Nat.pow_succ 2 d
                                       omega) ⟨[], 0⟩ [.int .i64 (2 : Nat), .int .i64 p] rfl
  rw [show (if 2 ^ d ≤ 2 then xorN 2 p else 2) = nxt p d 1 from rfl] at c1
  refine FnV.mk fn83 rfl md83 ⟨⟨[], 0⟩, ?_⟩ (fun _ => rfl) rfl
  simp only [show ((2 : Nat) : Int) = 2 from rfl] at c1
  rw [← h1, fi83]
  generalize nxt p d 1 = nx at *
  simp [xI_seq, xI_region, xI_ret, regA, regOps, runOps, opStep, wantedA, opA, evo, evos, calleeA, lk, nif_eq, putE, paramsE, valS, val2, keepE, restrict, finA, resA, binA, binInt, ofConst, ofConst1, loadA, TK.isAgg, asVar, unA, builtinA, lenOpA, lenA, ileb_cast, ileb_eq, ieqb_dec, indexAddrA, inB_dec, evPairs, storeA, AV.cellsOf, pairsOf, xI_nil, binBool, gcE, evOpt, tagZ, xI_block, xI_loopH, xI_condM, xI_exitM, xI_skip, xI_blk, exitA, ty2, eK83_0_0, c1]
  rfl

/-- Whether a polynomial has an order. -/
def ordB (p : Nat) : Bool := decide (2 ≤ p) && decide (p % 2 = 1)
theorem v82 (p : Nat) (hp : p < 256) : FnV TT 82 [.int .i64 p] (.bool (ordB p)) := by
  refine FnV.mk fn82 rfl md82 ⟨⟨[], 0⟩, ?_⟩ (fun _ => rfl) rfl
  have c1 := c69 p 2 131071 ⟨[], 0⟩
  have s2 := n_and1 (a := p) (by omega)
  have hi : inR p 2 131071 = decide (2 ≤ p) := by
    rw [Bool.eq_iff_iff, inR_iff, decide_eq_true_iff]; omega
  rw [hi] at c1
  have hm : modN p 2 = p % 2 := rfl
  rw [fi82, ordB, ← hm]
  by_cases h2 : 2 ≤ p
  · rw [decide_eq_true h2] at c1 ⊢
    by_cases h3 : modN p 2 = 1
    · have h3' : ((modN p 2 : Nat) : Int) = 1 := by omega
      simp [xI_seq, xI_region, xI_ret, regA, regOps, runOps, opStep, wantedA, opA, evo, evos, calleeA, lk, nif_eq, putE, paramsE, valS, val2, keepE, restrict, finA, resA, binA, binInt, ofConst, ofConst1, loadA, TK.isAgg, asVar, unA, builtinA, lenOpA, lenA, ileb_cast, ileb_eq, ieqb_dec, indexAddrA, inB_dec, evPairs, storeA, AV.cellsOf, pairsOf, xI_nil, binBool, gcE, evOpt, tagZ, xI_block, xI_loopH, xI_condM, xI_exitM, xI_skip, xI_blk, exitA, ty2, runTr, pairsOk, pairOk, lstAt, lastOf, sameVal, AV.eqv, eqvs, eqvs_ints, regOps, blt_dec, cond_true, cond_false, c1, s2, h3, h3']
    · have h3' : ¬ ((modN p 2 : Nat) : Int) = 1 := by omega
      simp [xI_seq, xI_region, xI_ret, regA, regOps, runOps, opStep, wantedA, opA, evo, evos, calleeA, lk, nif_eq, putE, paramsE, valS, val2, keepE, restrict, finA, resA, binA, binInt, ofConst, ofConst1, loadA, TK.isAgg, asVar, unA, builtinA, lenOpA, lenA, ileb_cast, ileb_eq, ieqb_dec, indexAddrA, inB_dec, evPairs, storeA, AV.cellsOf, pairsOf, xI_nil, binBool, gcE, evOpt, tagZ, xI_block, xI_loopH, xI_condM, xI_exitM, xI_skip, xI_blk, exitA, ty2, runTr, pairsOk, pairOk, lstAt, lastOf, sameVal, AV.eqv, eqvs, eqvs_ints, regOps, blt_dec, cond_true, cond_false, c1, s2, h3, h3']
  · rw [decide_eq_false h2] at c1 ⊢
    simp [xI_seq, xI_region, xI_ret, regA, regOps, runOps, opStep, wantedA, opA, evo, evos, calleeA, lk, nif_eq, putE, paramsE, valS, val2, keepE, restrict, finA, resA, binA, binInt, ofConst, ofConst1, loadA, TK.isAgg, asVar, unA, builtinA, lenOpA, lenA, ileb_cast, ileb_eq, ieqb_dec, indexAddrA, inB_dec, evPairs, storeA, AV.cellsOf, pairsOf, xI_nil, binBool, gcE, evOpt, tagZ, xI_block, xI_loopH, xI_condM, xI_exitM, xI_skip, xI_blk, exitA, ty2, runTr, pairsOk, pairOk, lstAt, lastOf, sameVal, AV.eqv, eqvs, eqvs_ints, regOps, blt_dec, cond_true, cond_false, c1]
/-- Whether a polynomial below 256 is primitive. -/
def primB (p d : Nat) : Bool := ordB p && decide (ordI p d 300 (nxt p d 1) 1 = some (2 ^ d - 1))
theorem ord_tab : ∀ d, d < 8 → ∀ t, t < 2 ^ d → (ordB (2 ^ d + t) = true → (ordI (2 ^ d + t) d 300 (nxt (2 ^ d + t) d 1) 1).isSome = true) := by decide +kernel

theorem v39 (d t : Nat) (hd8 : d ≤ 7) (ht : t < 2 ^ d) : FnV TT 39 [.int .i64 (2 ^ d + t : Nat)] (.bool (primB (2 ^ d + t) d)) := by
  have e8 : 2 ^ (d + 1) ≤ 2 ^ 8 := Nat.pow_le_pow_right (by decide) (by omega)
  have e9 : 2 ^ (d + 1) = 2 ^ d * 2 := Nat.pow_succ 2 d
  have htab := ord_tab d (by omega) t ht
  have hdp : ordB (2 ^ d + t) = true → 1 ≤ d := by
    intro h
    rcases Nat.eq_zero_or_pos d with h0 | h0
    · subst h0
      have : t = 0 := by simpa using ht
      subst this
      exact absurd h (by decide)
    · exact h0
  have hp : 2 ^ d ≤ 2 ^ d + t := by omega
  have hp2 : 2 ^ d + t < 2 ^ (d + 1) := by omega
  have c1 := v82 (2 ^ d + t) (by omega) ⟨[], 0⟩ [.int .i64 (2 ^ d + t : Nat)] rfl
  have c3 := v84s (x := 2 ^ d + t) (by omega) ⟨[], 0⟩ [.int .i64 (2 ^ d + t : Nat)] rfl
  rw [blen_ge hp hp2, show (((d + 1 : Nat) : Int) - 1) = (d : Int) by omega] at c3
  have s1 := sh_1 (b := d) (by omega)
  have s2 := pw_dec (k := d) (by omega)
  have hpw : pw d = 2 ^ d := rfl
  refine FnV.mk fn39 rfl md39 ⟨⟨[], 0⟩, ?_⟩ (fun _ => rfl) rfl
  have hneg : ¬ (d : Int) < 0 := by omega
  rw [fi39, primB]
  generalize hP : 2 ^ d + t = P at *
  cases ho : ordB P with
  | false =>
    rw [ho] at c1
    simp [xI_seq, xI_region, xI_ret, regA, regOps, runOps, opStep, wantedA, opA, evo, evos, calleeA, lk, nif_eq, putE, paramsE, valS, val2, keepE, restrict, finA, resA, binA, binInt, ofConst, ofConst1, loadA, TK.isAgg, asVar, unA, builtinA, lenOpA, lenA, ileb_cast, ileb_eq, ieqb_dec, indexAddrA, inB_dec, evPairs, storeA, AV.cellsOf, pairsOf, xI_nil, binBool, gcE, evOpt, tagZ, xI_block, xI_loopH, xI_condM, xI_exitM, xI_skip, xI_blk, exitA, ty2, runTr, pairsOk, pairOk, lstAt, lastOf, sameVal, AV.eqv, eqvs, eqvs_ints, regOps, blt_dec, cond_true, cond_false, c1]
  | true =>
    rw [ho] at c1
    obtain ⟨m, hm⟩ := Option.isSome_iff_exists.1 (htab ho)
    have c2 := v83 P d m (hdp ho) hd8 hp hp2 hm ⟨[], 0⟩ [.int .i64 P] rfl
    rw [hm]
    by_cases hmd : m = 2 ^ d - 1
    · have h1 : (m : Int) = ((pw d : Nat) : Int) - 1 := by rw [hpw]; have := Nat.two_pow_pos d; omega
      rw [decide_eq_true (by rw [hmd])]
      simp [xI_seq, xI_region, xI_ret, regA, regOps, runOps, opStep, wantedA, opA, evo, evos, calleeA, lk, nif_eq, putE, paramsE, valS, val2, keepE, restrict, finA, resA, binA, binInt, ofConst, ofConst1, loadA, TK.isAgg, asVar, unA, builtinA, lenOpA, lenA, ileb_cast, ileb_eq, ieqb_dec, indexAddrA, inB_dec, evPairs, storeA, AV.cellsOf, pairsOf, xI_nil, binBool, gcE, evOpt, tagZ, xI_block, xI_loopH, xI_condM, xI_exitM, xI_skip, xI_blk, exitA, ty2, runTr, pairsOk, pairOk, lstAt, lastOf, sameVal, AV.eqv, eqvs, eqvs_ints, regOps, blt_dec, cond_true, cond_false, c1, c2, c3, s1, s2, h1, hneg]
    · have h1 : ¬ (m : Int) = ((pw d : Nat) : Int) - 1 := by rw [hpw]; have := Nat.two_pow_pos d; omega
      rw [decide_eq_false (by intro e; cases e; exact hmd rfl)]
      simp [xI_seq, xI_region, xI_ret, regA, regOps, runOps, opStep, wantedA, opA, evo, evos, calleeA, lk, nif_eq, putE, paramsE, valS, val2, keepE, restrict, finA, resA, binA, binInt, ofConst, ofConst1, loadA, TK.isAgg, asVar, unA, builtinA, lenOpA, lenA, ileb_cast, ileb_eq, ieqb_dec, indexAddrA, inB_dec, evPairs, storeA, AV.cellsOf, pairsOf, xI_nil, binBool, gcE, evOpt, tagZ, xI_block, xI_loopH, xI_condM, xI_exitM, xI_skip, xI_blk, exitA, ty2, runTr, pairsOk, pairOk, lstAt, lastOf, sameVal, AV.eqv, eqvs, eqvs_ints, regOps, blt_dec, cond_true, cond_false, c1, c2, c3, s1, s2, h1, hneg]

theorem v38 (w t : Nat) (hw : w ≤ 16) (ht : t < 2 ^ w) : FnV TT 38 [.agg [.int .i64 w, .int .i64 t]] (.tup [.int .i64 (2 ^ w + t : Nat), .bool true]) := by
  refine FnV.mk fn38 rfl md38 ?_ (fun _ => rfl) rfl
  obtain ⟨σ, hσ⟩ : ∃ σ, (⟨[], 0⟩ : St).push ⟨[.int .i64 w, .int .i64 t], 2, false⟩ = σ := ⟨_, rfl⟩
  have g0 : RGB σ 0 w t := by subst hσ; rfl
  have p0 := g0.c0
  have p1 := g0.c1
  have p2 := g0.cc
  have c1 := v62 w t σ [.agg [.int .i64 w, .int .i64 t]] rfl
  rw [vreg_of hw ht] at c1
  have s1 := sh_1 (b := w) (by omega)
  have h16 : 2 ^ w ≤ 2 ^ 16 := Nat.pow_le_pow_right (by decide) hw
  have hpw : pw w = 2 ^ w := rfl
  have s2 := n_or (a := pw w) (b := t) (by omega) (by omega)
  have s3 : orN (pw w) t = 2 ^ w + t := by
    show 2 ^ w ||| t = _
    rw [Nat.or_comm]
    have := or_shift (b := 1) ht
    rw [Nat.one_mul, Nat.mul_one] at this
    rw [this, Nat.add_comm]
  rw [s3] at s2
  have hneg : ¬ (w : Int) < 0 := by omega
  have hT : 2 ^ w + t < 200000 := by omega
  refine ⟨σ, ?_⟩
  rw [fi38]
  generalize 2 ^ w + t = z at *
  simp [xI_seq, xI_region, xI_ret, regA, regOps, runOps, opStep, wantedA, opA, evo, evos, calleeA, lk, nif_eq, putE, paramsE, valS, val2, keepE, restrict, finA, resA, binA, binInt, ofConst, ofConst1, loadA, TK.isAgg, asVar, unA, builtinA, lenOpA, lenA, ileb_cast, ileb_eq, ieqb_dec, indexAddrA, inB_dec, evPairs, storeA, AV.cellsOf, pairsOf, xI_nil, binBool, gcE, evOpt, tagZ, xI_block, xI_loopH, xI_condM, xI_exitM, xI_skip, xI_blk, exitA, ty2, ty4, ty27, runTr, pairsOk, pairOk, lstAt, lastOf, sameVal, AV.eqv, eqvs, eqvs_ints, regOps, blt_dec, cond_true, cond_false, fieldAddrA, allOne, AV.one, buildA, sizesOf, fillA, putCells, n_push, indexA, ty2, ty27, ty9, ty5, ty3, ty36, hσ, p0, p1, p2, c1, s1, s2, hneg]

open Go.Wd
/-- Equal places of two lists, and all rotations but the first. -/
def eqc : List Nat → List Nat → Nat
  | x :: xs, y :: ys => bif Nat.beq x y then eqc xs ys + 1 else eqc xs ys
  | _, _ => 0
def rot1 : List Nat → List Nat
  | [] => []
  | x :: xs => xs ++ [x]
def chkR (l : List Nat) : Nat → List Nat → Bool
  | 0, _ => true
  | k + 1, m => Nat.beq (2 * eqc l (rot1 m) + 1) l.length && chkR l k (rot1 m)
/-- The bits of a register, as numbers. -/
def nbR (w t : Nat) : Nat → Nat → List Nat
  | 0, _ => []
  | m + 1, n => rbit w n :: nbR w t m (rnext w t n)
set_option maxRecDepth 100000 in
set_option maxHeartbeats 0 in
theorem per_tab : ∀ d, d < 8 → ∀ t, t < 2 ^ d → primB (2 ^ d + t) d = true → chkR (nbR d t (2 ^ d - 1) 1) (2 ^ d - 2) (nbR d t (2 ^ d - 1) 1) = true := by decide +kernel

open Go.Wd
theorem sumI_first (f : Nat → Int) (n : Nat) : sumI (n + 1) f = f 0 + sumI n (fun i => f (i + 1)) := by
  rw [Nat.add_comm, sumI_add]
  simp [sumI, Nat.add_comm]
theorem eqc_sum : ∀ (l m : List Nat), l.length = m.length → sumI l.length (fun i => if l[i]? = m[i]? then 1 else -1) = 2 * (eqc l m : Int) - l.length
  | [], [], _ => rfl
  | [], y :: ys, h => by simp at h
  | x :: xs, [], h => by simp at h
  | x :: xs, y :: ys, h => by
    have ih := eqc_sum xs ys (by simpa using h)
    rw [List.length_cons, sumI_first]
    simp only [List.getElem?_cons_zero, List.getElem?_cons_succ, Option.some.injEq]
    rw [ih, eqc]
    by_cases hxy : x = y
    · subst hxy
      rw [if_pos rfl, Nat.beq_refl]
      simp only [cond_true]
      omega
    · have : Nat.beq x y = false := by
        cases hb : Nat.beq x y with
        | false => rfl
        | true => exact absurd (Nat.eq_of_beq_eq_true hb) hxy
      rw [if_neg hxy, this]
      simp only [cond_false]
      omega
def rotN : Nat → List Nat → List Nat
  | 0, m => m
  | j + 1, m => rotN j (rot1 m)
theorem rot1_len (l : List Nat) : (rot1 l).length = l.length := by cases l <;> simp [rot1]
theorem rot1_get (l : List Nat) {x : Nat} (h : x < l.length) : (rot1 l)[x]? = l[(x + 1) % l.length]? := by
  cases l with
  | nil => simp at h
  | cons y ys =>
    simp only [rot1, List.length_cons] at h ⊢
    by_cases hx : x < ys.length
    · rw [List.getElem?_append_left hx, Nat.mod_eq_of_lt (by omega), List.getElem?_cons_succ]
    · have : x = ys.length := by omega
      subst this
      rw [List.getElem?_append_right (Nat.le_refl _), Nat.mod_self]; simp
theorem rotN_len : ∀ (j : Nat) (l : List Nat), (rotN j l).length = l.length
  | 0, _ => rfl
  | j + 1, l => by rw [rotN, rotN_len j, rot1_len]
theorem rotN_get : ∀ (j : Nat) (l : List Nat) {x : Nat}, x < l.length → (rotN j l)[x]? = l[(x + j) % l.length]?
  | 0, l, x, h => by rw [rotN, Nat.add_zero, Nat.mod_eq_of_lt h]
  | j + 1, l, x, h => by
    rw [rotN, rotN_get j (rot1 l) (by rw [rot1_len]; exact h), rot1_len, rot1_get l (Nat.mod_lt _ (by omega)), Nat.mod_add_mod, Nat.add_assoc]
theorem chkR_at (l : List Nat) : ∀ (k : Nat) (m : List Nat), chkR l k m = true → ∀ j, 1 ≤ j → j ≤ k → 2 * eqc l (rotN j m) + 1 = l.length
  | 0, _, _, j, h1, h2 => by omega
  | k + 1, m, h, j, h1, h2 => by
    rw [chkR, Bool.and_eq_true] at h
    by_cases hj : j = 1
    · subst hj
      exact Nat.eq_of_beq_eq_true h.1
    · obtain ⟨i, rfl⟩ : ∃ i, j = i + 1 := ⟨j - 1, by omega⟩
      exact chkR_at l k (rot1 m) h.2 i (by omega) (by omega)
theorem nbR_len (w t : Nat) : ∀ m n, (nbR w t m n).length = m
  | 0, _ => rfl
  | m + 1, n => by simp [nbR, nbR_len w t m]
theorem nbR_lt (w t : Nat) : ∀ (m n : Nat), ∀ x ∈ nbR w t m n, x < 2
  | 0, n, x, h => by simp [nbR] at h
  | m + 1, n, x, h => by
    rw [nbR, List.mem_cons] at h
    rcases h with rfl | h
    · exact rbit_lt w n
    · exact nbR_lt w t m _ x h
theorem outR_nb (w t : Nat) : ∀ m n, outR w t m n = (nbR w t m n).map bb
  | 0, _ => rfl
  | m + 1, n => by rw [outR, nbR, outR_nb w t m, List.map_cons]
theorem bb_inj {a b : Nat} (ha : a < 2) (hb : b < 2) (h : bb a = bb b) : a = b := by
  have h1 := bb_nat ha
  have h2 := bb_nat hb
  rw [h] at h1
  omega
theorem agI_sum (l : List UInt8) (sh : Nat) : ∀ i, agI l sh i = sumI i (fun i => if l[i]? = l[(i + sh) % l.length]? then 1 else -1)
  | 0 => rfl
  | i + 1 => by rw [agI, sumI, agI_sum l sh i]
/-- One period of a register with a primitive polynomial agrees with its shifts at one place less than it disagrees. -/
theorem prim_ag {w t i : Nat} (hw : w ≤ 7) (ht : t < 2 ^ w) (hp : primB (2 ^ w + t) w = true) (h1 : 1 ≤ i) (hi : i < 2 ^ w - 1) : agI (outR w t (2 ^ w - 1) 1) i (2 ^ w - 1) = -1 := by
  have hc := per_tab w (by omega) t ht hp
  obtain ⟨l, hl⟩ : ∃ l, nbR w t (2 ^ w - 1) 1 = l := ⟨_, rfl⟩
  have hlen : l.length = 2 ^ w - 1 := by rw [← hl]; exact nbR_len _ _ _ _
  have hlt : ∀ x ∈ l, x < 2 := by rw [← hl]; exact nbR_lt _ _ _ _
  rw [hl] at hc
  have h2 := chkR_at l _ l hc i h1 (by omega)
  rw [agI_sum, outR_nb, hl, ← hlen]
  refine (sumI_congr (g := fun k => if l[k]? = (rotN i l)[k]? then 1 else -1) _ fun k hk => ?_).trans ?_
  · have hj : (k + i) % l.length < l.length := Nat.mod_lt _ (by omega)
    rw [rotN_get i l hk, List.length_map, List.getElem?_map, List.getElem?_map, List.getElem?_eq_getElem hk, List.getElem?_eq_getElem hj]
    simp only [Option.map_some, Option.some.injEq]
    by_cases he : l[k] = l[(k + i) % l.length]
    · rw [if_pos (by rw [he]), if_pos he]
    · rw [if_neg (fun e => he (bb_inj (hlt _ (List.getElem_mem hk)) (hlt _ (List.getElem_mem hj)) e)), if_neg he]
  · rw [eqc_sum l (rotN i l) (rotN_len i l).symm]
    omega
theorem prim_pos {w t : Nat} (ht : t < 2 ^ w) (hp : primB (2 ^ w + t) w = true) : 1 ≤ w := by
  rcases Nat.eq_zero_or_pos w with h0 | h0
  · subst h0
    have : t = 0 := by simpa using ht
    subst this
    exact absurd hp (by decide)
  · exact h0
theorem eps_bd (l : List UInt8) : ∀ n : Nat, -(n : Int) ≤ sumI n (eps l) ∧ sumI n (eps l) ≤ n
  | 0 => ⟨by simp [sumI], by simp [sumI]⟩
  | n + 1 => by
    have := eps_bd l n
    rw [sumI, eps]; split <;> omega
theorem ags_bd (l : List UInt8) (m : Nat) : ∀ n : Nat, -((n * m : Nat) : Int) ≤ sumI n (fun s => agI l s m) ∧ sumI n (fun s => agI l s m) ≤ ((n * m : Nat) : Int)
  | 0 => ⟨by simp [sumI], by simp [sumI]⟩
  | n + 1 => by
    have h1 := ags_bd l m n
    have h2 := agI_bd l n m
    rw [sumI, Nat.succ_mul]
    omega

noncomputable def b8 : Code := Tryd.f8.body.getD .skip
noncomputable def B8_0 : Code := (bodyC (bodyC (sndC (fstC (sndC (sndC (sndC (sndC (sndC (sndC (sndC (sndC b8))))))))))))
noncomputable def K8_0 : List It := .lp B8_0 :: .blk 0 :: .code (sndC (sndC (sndC (sndC (sndC (sndC (sndC (sndC (sndC b8))))))))) :: []
theorem xl8_0 {fi : FI} {env : Env} {σ : St} : exI TT fi K8_0 env σ = exI TT fi (.code B8_0 :: K8_0) env σ := by unfold K8_0; exact xI_lp
noncomputable def R8_0_0 : List It := .code (sndC (sndC (sndC (sndC (sndC (sndC (sndC (sndC (sndC b8))))))))) :: []
theorem eK8_0_0 : exitA 0 K8_0 = some R8_0_0 := rfl
noncomputable def B8_1 : Code := (bodyC (bodyC (sndC (fstC (sndC (sndC (sndC (sndC (sndC (sndC (sndC (sndC (sndC (sndC (sndC (sndC (sndC (sndC (sndC (sndC b8))))))))))))))))))))
noncomputable def K8_1 : List It := .lp B8_1 :: .blk 2 :: .code (sndC (sndC (sndC (sndC (sndC (sndC (sndC (sndC (sndC (sndC (sndC (sndC (sndC (sndC (sndC (sndC (sndC b8))))))))))))))))) :: []
theorem xl8_1 {fi : FI} {env : Env} {σ : St} : exI TT fi K8_1 env σ = exI TT fi (.code B8_1 :: K8_1) env σ := by unfold K8_1; exact xI_lp
noncomputable def R8_1_2 : List It := .code (sndC (sndC (sndC (sndC (sndC (sndC (sndC (sndC (sndC (sndC (sndC (sndC (sndC (sndC (sndC (sndC (sndC b8))))))))))))))))) :: []
theorem eK8_1_2 : exitA 2 K8_1 = some R8_1_2 := rfl
set_option maxHeartbeats 2000000 in
theorem l8a (more : List Nat) (l : List UInt8) (n : Nat) (hn : n = l.length) (hl : n ≤ 30) (hb : l.all isBit = true) (σ : St) : ∀ m i : Nat, i + m = n → exI TT (FI.of Tryd.f8 (TT.an 8)) K8_0 [(1, .lst more.length (byts more)), (5, .str l), (6, .lst n (ints (agL l n))), (8, .int .i64 n), (9, .int .i64 (sumI i (eps l))), (10, .int .i64 (sumI i (fun s => agI l s n))), (11, .int .i64 i)] σ = exI TT (FI.of Tryd.f8 (TT.an 8)) K8_0 [(1, .lst more.length (byts more)), (5, .str l), (6, .lst n (ints (agL l n))), (8, .int .i64 n), (9, .int .i64 (sumI n (eps l))), (10, .int .i64 (sumI n (fun s => agI l s n))), (11, .int .i64 n)] σ := by
  intro m
  induction m with
  | zero =>
    intro i hi
    obtain rfl : i = n := by omega
    rfl
  | succ m ih =>
    intro i hi
    have h1 := ih (i + 1) (by omega)
    rw [← h1]
    clear h1 ih
    have hbd := eps_bd l i
    have hbd2 := ags_bd l n i
    have hbd3 := agI_bd l i n
    have hin : i * n ≤ 30 * 30 := Nat.mul_le_mul (by omega) hl
    have hop : agI l ((n - i) % n) n = agI l i n := by subst hn; exact ag_opp hb (by omega) (by omega)
    have hj : (n - i) % n < n := Nat.mod_lt _ (by omega)
    have hg := agL_get l n i (by omega)
    have hg2 := agL_get l n ((n - i) % n) hj
    rw [← hn] at hg hg2
    rw [hop] at hg2
    have hrd : ∀ σ, cellsAt σ (.lp (ints (agL l n)) i) 1 = some [.int .i64 (agI l i n)] := fun σ => lst_read hg
    have hmd : modN (n - i) n = (n - i) % n := rfl
    rw [← hmd] at hg2 hj
    have hrd2 : ∀ σ, cellsAt σ (.lp (ints (agL l n)) (modN (n - i) n)) 1 = some [.int .i64 (agI l i n)] := fun σ => lst_read hg2
    have hbg := bit_get hb (i := i) (by omega)
    have hga : ∀ h : i < l.length, l[i]'h = bb (bitf l i).toNat := fun h => by
      have e := List.getElem?_eq_getElem h
      rw [hbg] at e; exact (Option.some.inj e).symm
    have hlt : (i : Int) < (n : Int) := by omega
    have hnle : ¬ n ≤ i := by omega
    have hlt3 : i < n := by omega
    have hil : i < l.length := by omega
    have hw := wrapS (n := i) (by omega)
    have hwm : wrapA .i64 ((n : Int) - (i : Int)) = ((n - i : Nat) : Int) := by rw [wrapA_id (by omega) (by omega)]; omega
    have hmod : ((n - i : Nat) : Int).tmod (n : Int) = ((modN (n - i) n : Nat) : Int) := rfl
    have hn0 : ¬ (n : Int) = 0 := by omega
    have hn1 : ¬ n = 0 := by omega
    have hjz : ((modN (n - i) n : Nat) : Int) < (n : Int) := by omega
    have hi1 : ((i + 1 : Nat) : Int) = (i : Int) + 1 := by omega
    have hs1 : sumI (i + 1) (fun s => agI l s n) = sumI i (fun s => agI l s n) + agI l i n := rfl
    have hs2 : sumI (i + 1) (eps l) = sumI i (eps l) + eps l i := rfl
    have hw2 : wrapA .i64 (sumI i (fun s => agI l s n) + agI l i n) = sumI i (fun s => agI l s n) + agI l i n := wrapA_id (by omega) (by omega)
    rw [hi1, hs1, hs2]
    generalize sumI i (fun s => agI l s n) = X at *
    generalize sumI i (eps l) = Y at *
    generalize agI l i n = z at *
    generalize modN (n - i) n = j at *
    generalize hni : n - i = k at *
    cases hbi : bitf l i with
    | false =>
      rw [hbi] at hbg hga
      have he : eps l i = 1 := by rw [eps, hbi]; rfl
      have h48 : bb (false.toNat) = 48 := rfl
      rw [h48] at hbg hga
      have hw3 : wrapA .i64 (Y + 1) = Y + 1 := wrapA_id (by omega) (by omega)
      rw [he]
      conv => lhs; rw [fi8, xl8_0]; simp only [B8_0, b8, Tryd.f8, Option.getD, fstC, sndC, bodyC, thnC, elsC]
      rw [fi8]
      simp [xI_seq, xI_region, xI_ret, regA, regOps, runOps, opStep, wantedA, opA, evo, evos, calleeA, lk, nif_eq, putE, paramsE, valS, val2, keepE, restrict, finA, resA, binA, binInt, ofConst, ofConst1, loadA, TK.isAgg, asVar, unA, builtinA, lenOpA, lenA, ileb_cast, ileb_eq, ieqb_dec, indexAddrA, inB_dec, evPairs, storeA, AV.cellsOf, pairsOf, xI_nil, binBool, gcE, evOpt, tagZ, xI_block, xI_loopH, xI_condM, xI_exitM, xI_skip, xI_blk, exitA, ty2, ty3, ty4, ty5, ty9, ty24, ty27, ty36, eK8_0_0, eK8_1_2, runTr, pairsOk, pairOk, lstAt, lastOf, sameVal, AV.eqv, eqvs, eqvs_ints, regOps, blt_dec, cond_true, cond_false, fieldAddrA, allOne, AV.one, buildA, sizesOf, fillA, putCells, n_push, indexA, ty2, ty27, ty9, ty5, ty3, ty36, hrd, hrd2, hbg, hga, hlt, hnle, hlt3, hil, hw, hwm, hmod, hn0, hn1, hjz, hj, hw2, hw3]
    | true =>
      rw [hbi] at hbg hga
      have he : eps l i = -1 := by rw [eps, hbi]; rfl
      have h49 : bb (true.toNat) = 49 := rfl
      rw [h49] at hbg hga
      have hw3 : wrapA .i64 (Y - 1) = Y + -1 := by rw [wrapA_id (by omega) (by omega)]; omega
      rw [he]
      conv => lhs; rw [fi8, xl8_0]; simp only [B8_0, b8, Tryd.f8, Option.getD, fstC, sndC, bodyC, thnC, elsC]
      rw [fi8]
      simp [xI_seq, xI_region, xI_ret, regA, regOps, runOps, opStep, wantedA, opA, evo, evos, calleeA, lk, nif_eq, putE, paramsE, valS, val2, keepE, restrict, finA, resA, binA, binInt, ofConst, ofConst1, loadA, TK.isAgg, asVar, unA, builtinA, lenOpA, lenA, ileb_cast, ileb_eq, ieqb_dec, indexAddrA, inB_dec, evPairs, storeA, AV.cellsOf, pairsOf, xI_nil, binBool, gcE, evOpt, tagZ, xI_block, xI_loopH, xI_condM, xI_exitM, xI_skip, xI_blk, exitA, ty2, ty3, ty4, ty5, ty9, ty24, ty27, ty36, eK8_0_0, eK8_1_2, runTr, pairsOk, pairOk, lstAt, lastOf, sameVal, AV.eqv, eqvs, eqvs_ints, regOps, blt_dec, cond_true, cond_false, fieldAddrA, allOne, AV.one, buildA, sizesOf, fillA, putCells, n_push, indexA, ty2, ty27, ty9, ty5, ty3, ty36, hrd, hrd2, hbg, hga, hlt, hnle, hlt3, hil, hw, hwm, hmod, hn0, hn1, hjz, hj, hw2, hw3]
theorem l8b (L : List Int) (M : Nat) (hM : M = L.length) (hl : M ≤ 1000) (h : ∀ i, 1 ≤ i → i < M → L[i]? = some (-1)) (σ : St) : ∀ m i : Nat, 1 ≤ i → i + m = M →
    exI TT (FI.of Tryd.f8 (TT.an 8)) K8_1 [(17, .lst M (ints L)), (19, .int .i64 i)] σ = some (.bool true, σ) := by
  intro m
  induction m with
  | zero =>
    intro i h1 hi
    obtain rfl : i = M := by omega
    rw [fi8]
    rw [xl8_1]
    simp only [B8_1, b8, Tryd.f8, Option.getD, fstC, sndC, bodyC, thnC, elsC]
    simp [xI_seq, xI_region, xI_ret, regA, regOps, runOps, opStep, wantedA, opA, evo, evos, calleeA, lk, nif_eq, putE, paramsE, valS, val2, keepE, restrict, finA, resA, binA, binInt, ofConst, ofConst1, loadA, TK.isAgg, asVar, unA, builtinA, lenOpA, lenA, ileb_cast, ileb_eq, ieqb_dec, indexAddrA, inB_dec, evPairs, storeA, AV.cellsOf, pairsOf, xI_nil, binBool, gcE, evOpt, tagZ, xI_block, xI_loopH, xI_condM, xI_exitM, xI_skip, xI_blk, exitA, ty2, ty3, ty4, ty5, ty9, ty24, ty27, ty36, eK8_0_0, eK8_1_2]
    simp only [R8_1_2, b8, Tryd.f8, Option.getD, fstC, sndC, bodyC, thnC, elsC]
    simp [xI_seq, xI_region, xI_ret, regA, regOps, runOps, opStep, wantedA, opA, evo, evos, calleeA, lk, nif_eq, putE, paramsE, valS, val2, keepE, restrict, finA, resA, binA, binInt, ofConst, ofConst1, loadA, TK.isAgg, asVar, unA, builtinA, lenOpA, lenA, ileb_cast, ileb_eq, ieqb_dec, indexAddrA, inB_dec, evPairs, storeA, AV.cellsOf, pairsOf, xI_nil, binBool, gcE, evOpt, tagZ, xI_block, xI_loopH, xI_condM, xI_exitM, xI_skip, xI_blk, exitA, ty2, ty3, ty4, ty5, ty9, ty24, ty27, ty36, eK8_0_0, eK8_1_2]
  | succ m ih =>
    intro i h1 hi
    have h2 := ih (i + 1) (by omega) (by omega)
    have hg := h i h1 (by omega)
    have hrd : ∀ σ, cellsAt σ (.lp (ints L) i) 1 = some [.int .i64 (-1)] := fun σ => lst_read hg
    have hlt : (i : Int) < (M : Int) := by omega
    have hnle : ¬ M ≤ i := by omega
    have hlt3 : i < M := by omega
    have hw := wrapS (n := i) (by omega)
    have hi1 : ((i + 1 : Nat) : Int) = (i : Int) + 1 := by omega
    rw [hi1] at h2
    rw [fi8] at h2 ⊢
    rw [xl8_1]
    simp only [B8_1, b8, Tryd.f8, Option.getD, fstC, sndC, bodyC, thnC, elsC]
    simp [xI_seq, xI_region, xI_ret, regA, regOps, runOps, opStep, wantedA, opA, evo, evos, calleeA, lk, nif_eq, putE, paramsE, valS, val2, keepE, restrict, finA, resA, binA, binInt, ofConst, ofConst1, loadA, TK.isAgg, asVar, unA, builtinA, lenOpA, lenA, ileb_cast, ileb_eq, ieqb_dec, indexAddrA, inB_dec, evPairs, storeA, AV.cellsOf, pairsOf, xI_nil, binBool, gcE, evOpt, tagZ, xI_block, xI_loopH, xI_condM, xI_exitM, xI_skip, xI_blk, exitA, ty2, ty3, ty4, ty5, ty9, ty24, ty27, ty36, eK8_0_0, eK8_1_2, runTr, pairsOk, pairOk, lstAt, lastOf, sameVal, AV.eqv, eqvs, eqvs_ints, regOps, blt_dec, cond_true, cond_false, fieldAddrA, allOne, AV.one, buildA, sizesOf, fillA, putCells, n_push, indexA, ty2, ty27, ty9, ty5, ty3, ty36, hrd, hlt, hnle, hlt3, hw]
    exact h2
set_option maxHeartbeats 4000000 in
theorem w8 (code : List Nat) (hb : ∀ x ∈ code, x < 256) (more : List Nat) (hm : ∀ x ∈ more, x < 256) : FnV TT 8 [.lst code.length (byts code), .lst more.length (byts more)] (.bool true) := by
  refine FnV.mk fn8 rfl md8 ?_ (fun _ => rfl) rfl
  rw [fi8]
  have cl := v18 code more ⟨[], 0⟩ [.lst code.length (byts code), .lst more.length (byts more)] rfl
  by_cases hlong : 48 < code.length ∨ 48 < more.length
  · have e : (decide (48 < code.length) || decide (48 < more.length)) = true := by simpa using hlong
    rw [e] at cl
    refine ⟨⟨[], 0⟩, ?_⟩
    simp [xI_seq, xI_region, xI_ret, regA, regOps, runOps, opStep, wantedA, opA, evo, evos, calleeA, lk, nif_eq, putE, paramsE, valS, val2, keepE, restrict, finA, resA, binA, binInt, ofConst, ofConst1, loadA, TK.isAgg, asVar, unA, builtinA, lenOpA, lenA, ileb_cast, ileb_eq, ieqb_dec, indexAddrA, inB_dec, evPairs, storeA, AV.cellsOf, pairsOf, xI_nil, binBool, gcE, evOpt, tagZ, xI_block, xI_loopH, xI_condM, xI_exitM, xI_skip, xI_blk, exitA, ty2, ty3, ty4, ty5, ty9, ty24, ty27, ty36, eK8_0_0, eK8_1_2, runTr, pairsOk, pairOk, lstAt, lastOf, sameVal, AV.eqv, eqvs, eqvs_ints, regOps, blt_dec, cond_true, cond_false, fieldAddrA, allOne, AV.one, buildA, sizesOf, fillA, putCells, n_push, indexA, ty2, ty27, ty9, ty5, ty3, ty36, cl]
  · have e : (decide (48 < code.length) || decide (48 < more.length)) = false := by simp; omega
    rw [e] at cl
    obtain ⟨b, hb20, hbb, vb⟩ := v25 code hb (by omega) 20 (by decide)
    have cb := vb ⟨[], 0⟩ [.lst code.length (byts code), .int .i64 (20 : Nat)] rfl
    have hadd : binStr .add b [49] = some (.str (b ++ [49])) := by
      simp only [binStr]
      rw [if_pos (by simp; omega)]
    obtain ⟨l, hl⟩ : ∃ l, b ++ [49] = l := ⟨_, rfl⟩
    rw [hl] at hadd
    have hlb : l.all isBit = true := by rw [← hl, List.all_append, hbb]; rfl
    obtain ⟨n, hn⟩ : ∃ n, n = l.length := ⟨_, rfl⟩
    have hn1 : 1 ≤ n := by rw [hn, ← hl]; simp
    have hn30 : n ≤ 30 := by rw [hn, ← hl]; simp; omega
    have hlne : l ≠ [] := by rw [← hl]; simp
    have ca := c37 l (by omega) hlb hlne ⟨[], 0⟩
    rw [← hn] at ca
    have h0 := l8a more l n hn hn30 hlb ⟨[], 0⟩ n 0 (by omega)
    simp only [sumI, show ((0 : Nat) : Int) = 0 from rfl, Int.natCast_zero] at h0
    have hg0 := agL_get l n 0 (by omega)
    rw [← hn] at hg0
    have hz0 : agI l 0 n = n := by subst hn; exact ag_zero hlb (by omega)
    rw [hz0] at hg0
    have hrd0 : ∀ σ, cellsAt σ (.lp (ints (agL l n)) 0) 1 = some [.int .i64 n] := fun σ => lst_read hg0
    have hlp0 : (0 : Int) < (n : Int) := by omega
    have hlp1 : 0 < n := by omega
    have hsum : sumI n (fun s => agI l s n) = sumI n (eps l) * sumI n (eps l) := by subst hn; exact ag_sum hlb (by omega)
    have hX := ags_bd l n n
    have hnn : n * n ≤ 30 * 30 := Nat.mul_le_mul hn30 hn30
    have hwX : wrapA .i64 (sumI n (eps l) * sumI n (eps l)) = sumI n (fun s => agI l s n) := by rw [← hsum, wrapA_id (by omega) (by omega)]
    -- the register
    obtain ⟨w, t, hw, ht, vr⟩ := v19 more hm (by omega)
    have ce := vr ⟨[], 0⟩ [.lst more.length (byts more)] rfl
    obtain ⟨σ, hσ, g0, hn0, _⟩ := RGB.s2 (σ := (⟨[], 0⟩ : St).push ⟨[.int .i64 0, .int .i64 0], 2, false⟩) (D := 0) (a := 0) (b := 0) get_push_same w t
    have p0 := g0.c0
    have p0c := g0.cc
    have cp := v38 w t (by omega) ht σ [.agg [.int .i64 w, .int .i64 t]] rfl
    have ci := v39 w t hw ht σ [.int .i64 (2 ^ w + t : Nat)] rfl
    have hnl : (l.length : Int) = (n : Int) := by omega
    simp only [show ((20 : Nat) : Int) = 20 from rfl] at cb
    cases hpr : primB (2 ^ w + t) w with
    | false =>
      rw [hpr] at ci
      clear hn hl hlb hbb hb20 vb hX hsum hz0 hg0
      refine ⟨σ, ?_⟩
      generalize 2 ^ w + t = P at *
      generalize sumI n (fun s => agI l s n) = X at *
      generalize sumI n (eps l) = Y at *
      rw [fi8] at h0
      simp [xI_seq, xI_region, xI_ret, regA, regOps, runOps, opStep, wantedA, opA, evo, evos, calleeA, lk, nif_eq, putE, paramsE, valS, val2, keepE, restrict, finA, resA, binA, binInt, ofConst, ofConst1, loadA, TK.isAgg, asVar, unA, builtinA, lenOpA, lenA, ileb_cast, ileb_eq, ieqb_dec, indexAddrA, inB_dec, evPairs, storeA, AV.cellsOf, pairsOf, xI_nil, binBool, gcE, evOpt, tagZ, xI_block, xI_loopH, xI_condM, xI_exitM, xI_skip, xI_blk, exitA, ty2, ty3, ty4, ty5, ty9, ty24, ty27, ty36, eK8_0_0, eK8_1_2, runTr, pairsOk, pairOk, lstAt, lastOf, sameVal, AV.eqv, eqvs, eqvs_ints, regOps, blt_dec, cond_true, cond_false, fieldAddrA, allOne, AV.one, buildA, sizesOf, fillA, putCells, n_push, indexA, ty2, ty27, ty9, ty5, ty3, ty36, cl, cb, hadd, ca, hnl, hrd0, hlp0, hlp1, hn1]
      refine h0.trans ?_
      rw [xl8_0]
      simp only [B8_0, b8, Tryd.f8, Option.getD, fstC, sndC, bodyC, thnC, elsC]
      simp [xI_seq, xI_region, xI_ret, regA, regOps, runOps, opStep, wantedA, opA, evo, evos, calleeA, lk, nif_eq, putE, paramsE, valS, val2, keepE, restrict, finA, resA, binA, binInt, ofConst, ofConst1, loadA, TK.isAgg, asVar, unA, builtinA, lenOpA, lenA, ileb_cast, ileb_eq, ieqb_dec, indexAddrA, inB_dec, evPairs, storeA, AV.cellsOf, pairsOf, xI_nil, binBool, gcE, evOpt, tagZ, xI_block, xI_loopH, xI_condM, xI_exitM, xI_skip, xI_blk, exitA, ty2, ty3, ty4, ty5, ty9, ty24, ty27, ty36, eK8_0_0, eK8_1_2, runTr, pairsOk, pairOk, lstAt, lastOf, sameVal, AV.eqv, eqvs, eqvs_ints, regOps, blt_dec, cond_true, cond_false, fieldAddrA, allOne, AV.one, buildA, sizesOf, fillA, putCells, n_push, indexA, ty2, ty27, ty9, ty5, ty3, ty36]
      simp only [R8_0_0, b8, Tryd.f8, Option.getD, fstC, sndC, bodyC, thnC, elsC]
      simp [xI_seq, xI_region, xI_ret, regA, regOps, runOps, opStep, wantedA, opA, evo, evos, calleeA, lk, nif_eq, putE, paramsE, valS, val2, keepE, restrict, finA, resA, binA, binInt, ofConst, ofConst1, loadA, TK.isAgg, asVar, unA, builtinA, lenOpA, lenA, ileb_cast, ileb_eq, ieqb_dec, indexAddrA, inB_dec, evPairs, storeA, AV.cellsOf, pairsOf, xI_nil, binBool, gcE, evOpt, tagZ, xI_block, xI_loopH, xI_condM, xI_exitM, xI_skip, xI_blk, exitA, ty2, ty3, ty4, ty5, ty9, ty24, ty27, ty36, eK8_0_0, eK8_1_2, runTr, pairsOk, pairOk, lstAt, lastOf, sameVal, AV.eqv, eqvs, eqvs_ints, regOps, blt_dec, cond_true, cond_false, fieldAddrA, allOne, AV.one, buildA, sizesOf, fillA, putCells, n_push, indexA, ty2, ty27, ty9, ty5, ty3, ty36, ce, hσ, p0, p0c, cp, hwX, ci]
    | true =>
      rw [hpr] at ci
      have hw1 := prim_pos ht hpr
      have h2w : 2 ^ 1 ≤ 2 ^ w := Nat.pow_le_pow_right (by decide) hw1
      have hN7 : 2 ^ w ≤ 2 ^ 7 := Nat.pow_le_pow_right (by decide) hw
      have hpp := pow_i w (by omega)
      have hw64 : wrapA .u64 (w : Int) = (w : Int) := w_wrap .u64 (by simp only [topOf]; omega)
      have convU : ∀ σ, convA TT σ 2 36 (.int .i64 (w : Int)) = some (.int .u64 (w : Int), σ) := fun σ => by simp [convA, ty2, ty36, hw64]
      have ok : rbOk w t (1 : Nat) (2 ^ w - 1 : Nat) = true := rbOk_of (by omega) ht (by omega) (by omega)
      have cr := v21 w t (1 : Nat) (2 ^ w - 1 : Nat) σ [.agg [.int .i64 w, .int .i64 t], .int .i64 (1 : Nat), .int .i64 (2 ^ w - 1 : Nat)] rfl
      rw [rbV_yes ok, ok] at cr
      have hpl := outR_length w t (2 ^ w - 1) 1
      have hpb := outR_bits w t (2 ^ w - 1) 1
      have hpa : ∀ i, 1 ≤ i → i < 2 ^ w - 1 → agI (outR w t (2 ^ w - 1) 1) i (2 ^ w - 1) = -1 := fun i h1 h2 => prim_ag hw ht hpr h1 h2
      generalize outR w t (2 ^ w - 1) 1 = per at *
      have hpne : per ≠ [] := by intro e; rw [e] at hpl; simp at hpl; omega
      have ca2 := c37 per (by omega) hpb hpne σ
      have fin := l8b (agL per per.length) (2 ^ w - 1) (by rw [agL_len, hpl]) (by omega) (fun i h1 h2 => by
        rw [agL_get per per.length i (by omega), hpl, hpa i h1 h2]) σ (2 ^ w - 2) 1 (Nat.le_refl _) (by omega)
      rw [hpl] at ca2 fin
      have hwN : wrapA .i64 (((2 ^ w : Nat) : Int) - 1) = ((2 ^ w - 1 : Nat) : Int) := by rw [wrapA_id (by omega) (by omega)]; omega
      clear hn hl hlb hbb hb20 vb hX hsum hz0 hg0 hpa hpb ok vr
      simp only [show ((1 : Nat) : Int) = 1 from rfl] at cr fin
      refine ⟨σ, ?_⟩
      generalize hP : 2 ^ w + t = P at *
      generalize hM : 2 ^ w - 1 = M at *
      generalize hN : 2 ^ w = N at *
      generalize agL per M = LL at *
      generalize sumI n (fun s => agI l s n) = X at *
      generalize sumI n (eps l) = Y at *
      rw [fi8] at h0 fin
      simp [xI_seq, xI_region, xI_ret, regA, regOps, runOps, opStep, wantedA, opA, evo, evos, calleeA, lk, nif_eq, putE, paramsE, valS, val2, keepE, restrict, finA, resA, binA, binInt, ofConst, ofConst1, loadA, TK.isAgg, asVar, unA, builtinA, lenOpA, lenA, ileb_cast, ileb_eq, ieqb_dec, indexAddrA, inB_dec, evPairs, storeA, AV.cellsOf, pairsOf, xI_nil, binBool, gcE, evOpt, tagZ, xI_block, xI_loopH, xI_condM, xI_exitM, xI_skip, xI_blk, exitA, ty2, ty3, ty4, ty5, ty9, ty24, ty27, ty36, eK8_0_0, eK8_1_2, runTr, pairsOk, pairOk, lstAt, lastOf, sameVal, AV.eqv, eqvs, eqvs_ints, regOps, blt_dec, cond_true, cond_false, fieldAddrA, allOne, AV.one, buildA, sizesOf, fillA, putCells, n_push, indexA, ty2, ty27, ty9, ty5, ty3, ty36, cl, cb, hadd, ca, hnl, hrd0, hlp0, hlp1, hn1]
      refine h0.trans ?_
      rw [xl8_0]
      simp only [B8_0, b8, Tryd.f8, Option.getD, fstC, sndC, bodyC, thnC, elsC]
      simp [xI_seq, xI_region, xI_ret, regA, regOps, runOps, opStep, wantedA, opA, evo, evos, calleeA, lk, nif_eq, putE, paramsE, valS, val2, keepE, restrict, finA, resA, binA, binInt, ofConst, ofConst1, loadA, TK.isAgg, asVar, unA, builtinA, lenOpA, lenA, ileb_cast, ileb_eq, ieqb_dec, indexAddrA, inB_dec, evPairs, storeA, AV.cellsOf, pairsOf, xI_nil, binBool, gcE, evOpt, tagZ, xI_block, xI_loopH, xI_condM, xI_exitM, xI_skip, xI_blk, exitA, ty2, ty3, ty4, ty5, ty9, ty24, ty27, ty36, eK8_0_0, eK8_1_2, runTr, pairsOk, pairOk, lstAt, lastOf, sameVal, AV.eqv, eqvs, eqvs_ints, regOps, blt_dec, cond_true, cond_false, fieldAddrA, allOne, AV.one, buildA, sizesOf, fillA, putCells, n_push, indexA, ty2, ty27, ty9, ty5, ty3, ty36]
      simp only [R8_0_0, b8, Tryd.f8, Option.getD, fstC, sndC, bodyC, thnC, elsC]
      simp [xI_seq, xI_region, xI_ret, regA, regOps, runOps, opStep, wantedA, opA, evo, evos, calleeA, lk, nif_eq, putE, paramsE, valS, val2, keepE, restrict, finA, resA, binA, binInt, ofConst, ofConst1, loadA, TK.isAgg, asVar, unA, builtinA, lenOpA, lenA, ileb_cast, ileb_eq, ieqb_dec, indexAddrA, inB_dec, evPairs, storeA, AV.cellsOf, pairsOf, xI_nil, binBool, gcE, evOpt, tagZ, xI_block, xI_loopH, xI_condM, xI_exitM, xI_skip, xI_blk, exitA, ty2, ty3, ty4, ty5, ty9, ty24, ty27, ty36, eK8_0_0, eK8_1_2, runTr, pairsOk, pairOk, lstAt, lastOf, sameVal, AV.eqv, eqvs, eqvs_ints, regOps, blt_dec, cond_true, cond_false, fieldAddrA, allOne, AV.one, buildA, sizesOf, fillA, putCells, n_push, indexA, ty2, ty27, ty9, ty5, ty3, ty36, ce, hσ, p0, p0c, cp, hwX, ci, convU, hpp, hwN, cr, ca2]
      exact fin

end Go.Proofs.YthkdbkjkccogfaaDoor
