/- Contracts: orders, ways to choose, distances after riffles. Nothing is claimed here; no condition. -/
import Derived.Test.YtihoeimlkbjgmaaQc
import Derived.Test.YtihoeimlkbjgmaaXf
set_option linter.unusedSimpArgs false
set_option linter.unusedVariables false
namespace Go.Proofs.Ytihoeimlkbjgmaa
open Go Go.Abs Go.Nm
attribute [local simp] xI_seq xI_region xI_ret regA regOps runOps opStep wantedA opA evo evos calleeA lk nif_eq putE paramsE valS val2 keepE restrict finA resA binA binInt ofConst ofConst1 loadA TK.isAgg asVar unA builtinA lenOpA lenA indexAddrA evPairs storeA AV.cellsOf pairsOf xI_nil binBool gcE evOpt runTr pairsOk pairOk sameVal AV.eqv lastOf lstAt eqvs boundA indexA regF twoOf prsOf memI runTrF selF runTr2 freshOp scals AV.scal xI_block xI_loopH xI_condM xI_exitM xI_skip xI_blk exitA List.getElem?_cons_zero List.getElem?_cons_succ List.getElem?_toArray List.getElem?_nil ileb_t ileb_f ieqb_t ieqb_f inB_t wrapA_id lp_read ieqb_self Nat.blt_eq cond_true cond_false ty2 ty3 ty4 ty22 ty25 ty41 ty48 ty58 ty76 ty90 ty92 ty97 ty99 ty101 ty104
def inR (n lo hi : Int) : Bool := decide (lo ≤ n) && decide (n ≤ hi)
theorem bs1 (σ : St) (x : Int) : buildSliceA TT σ 48 1 [(0, .int .i64 x)] = some (.sl σ.n 0 1 1, σ.push ⟨[.int .i64 x], 1, false⟩) := build_one ty48 ty2
theorem c63 (n lo hi : Int) (σ : St) : callI TT 63 [.int .i64 n, .int .i64 lo, .int .i64 hi] σ = some (.bool (inR n lo hi), σ) := by
  refine (FnV.mk (args' := [.int .i64 n, .int .i64 lo, .int .i64 hi]) fn63 rfl md63 ⟨⟨[], 0⟩, ?_⟩ (fun _ => rfl) rfl) σ _ rfl
  rw [fi63]
  by_cases h1 : lo ≤ n <;> simp [xI_seq, xI_region, xI_ret, regA, regOps, runOps, opStep, wantedA, opA, evo, evos, calleeA, lk, nif_eq, putE, paramsE, valS, val2, keepE, restrict, finA, resA, binA, binInt, ofConst, ofConst1, loadA, TK.isAgg, asVar, unA, builtinA, lenOpA, lenA, ileb_cast, ileb_eq, ieqb_dec, indexAddrA, inB_dec, evPairs, storeA, AV.cellsOf, pairsOf, xI_nil, binBool, gcE, evOpt, inR, h1]

theorem c92 (n lo hi : Int) (σ : St) : callI TT 92 [.int .i64 n, .int .i64 lo, .int .i64 hi] σ = some (.bool (inR n lo hi), σ) := by
  refine (FnV.mk (args' := [.int .i64 n, .int .i64 lo, .int .i64 hi]) fn92 rfl md92 ⟨⟨[], 0⟩, ?_⟩ (fun _ => rfl) rfl) σ _ rfl
  rw [fi92]
  by_cases h1 : lo ≤ n <;> simp [xI_seq, xI_region, xI_ret, regA, regOps, runOps, opStep, wantedA, opA, evo, evos, calleeA, lk, nif_eq, putE, paramsE, valS, val2, keepE, restrict, finA, resA, binA, binInt, ofConst, ofConst1, loadA, TK.isAgg, asVar, unA, builtinA, lenOpA, lenA, ileb_cast, ileb_eq, ieqb_dec, indexAddrA, inB_dec, evPairs, storeA, AV.cellsOf, pairsOf, xI_nil, binBool, gcE, evOpt, inR, h1]

theorem inR_iff {n lo hi : Int} : inR n lo hi = true ↔ lo ≤ n ∧ n ≤ hi := by simp [inR]
/-! ### Sinking numbers are put -/
/-! ### Rising sequences: plain law -/
/-! ### Pascal's numbers -/
def ch : Nat → Nat → Nat
  | _, 0 => 1
  | 0, _ + 1 => 0
  | n + 1, k + 1 => ch n k + ch n (k + 1)
theorem ch_0 (n : Nat) : ch n 0 = 1 := by cases n <;> rfl
theorem ch_gt : ∀ (n k : Nat), n < k → ch n k = 0
  | n, 0, h => by omega
  | 0, k + 1, _ => rfl
  | n + 1, k + 1, h => by rw [ch, ch_gt n k (by omega), ch_gt n (k + 1) (by omega)]
theorem ch_self : ∀ n : Nat, ch n n = 1
  | 0 => rfl
  | n + 1 => by rw [ch, ch_self n, ch_gt n (n + 1) (by omega)]
theorem ch_step : ∀ (n k : Nat), (k + 1) * ch n (k + 1) = (n - k) * ch n k
  | 0, k => by simp [ch]
  | n + 1, 0 => by
    have h := ch_step n 0
    simp only [Nat.zero_add, Nat.one_mul, Nat.sub_zero, ch_0, Nat.mul_one] at h
    rw [show ch (n + 1) (0 + 1) = ch n 0 + ch n 1 from rfl, ch_0, ch_0, h]; omega
  | n + 1, k + 1 => by
    have h1 := ch_step n (k + 1)
    have h2 := ch_step n k
    rw [ch, ch, Nat.mul_add, h1, Nat.mul_add, show n + 1 - (k + 1) = n - k by omega, ← h2]
    rcases Nat.lt_or_ge k n with h | h
    · obtain ⟨m, rfl⟩ : ∃ m, n = k + 1 + m := ⟨n - (k + 1), by omega⟩
      rw [show k + 1 + m - (k + 1) = m by omega, show k + 1 + m - k = m + 1 by omega]
      generalize ch (k + 1 + m) (k + 1) = z
      rw [← Nat.add_mul, ← Nat.add_mul]
      congr 1; omega
    · rw [ch_gt n (k + 1) (by omega)]; simp
theorem ch_symm : ∀ (n k : Nat), k ≤ n → ch n k = ch n (n - k)
  | 0, k, h => by obtain rfl : k = 0 := by omega
                  rfl
  | n + 1, 0, _ => by rw [ch_0, Nat.sub_zero, ch_self]
  | n + 1, k + 1, h => by
    rcases Nat.lt_or_ge k n with h1 | h1
    · obtain ⟨m, hm⟩ : ∃ m, n - k = m + 1 := ⟨n - k - 1, by omega⟩
      rw [show n + 1 - (k + 1) = m + 1 by omega, ch, ch, ch_symm n k (by omega), ch_symm n (k + 1) (by omega), hm, show n - (k + 1) = m by omega, Nat.add_comm]
    · obtain rfl : k = n := by omega
      rw [ch_self, Nat.sub_self, ch_0]
def adj : List Nat → List Nat
  | a :: b :: r => (a + b) :: adj (b :: r)
  | _ => []
def prow : Nat → List Nat
  | 0 => [1]
  | n + 1 => 1 :: (adj (prow n) ++ [1])
theorem adj_length : ∀ l : List Nat, (adj l).length = l.length - 1
  | [] => rfl
  | [_] => rfl
  | a :: b :: r => by simp [adj, adj_length (b :: r)]
theorem adj_get : ∀ (l : List Nat) (i a b : Nat), l[i]? = some a → l[i + 1]? = some b → (adj l)[i]? = some (a + b)
  | [], i, a, b, h, _ => by simp at h
  | [_], i, a, b, _, h => by simp at h
  | x :: y :: r, 0, a, b, h1, h2 => by simp at h1 h2; simp [adj, h1, h2]
  | x :: y :: r, i + 1, a, b, h1, h2 => by
    simp only [List.getElem?_cons_succ] at h1 h2
    simp only [adj, List.getElem?_cons_succ]
    exact adj_get (y :: r) i a b h1 h2
theorem prow_length : ∀ n : Nat, (prow n).length = n + 1
  | 0 => rfl
  | n + 1 => by simp [prow, adj_length, prow_length n]
theorem prow_get : ∀ (n k : Nat), k ≤ n → (prow n)[k]? = some (ch n k)
  | 0, k, h => by obtain rfl : k = 0 := by omega
                  rfl
  | n + 1, 0, _ => by simp [prow, ch_0]
  | n + 1, k + 1, h => by
    simp only [prow, List.getElem?_cons_succ]
    rcases Nat.lt_or_ge k n with h1 | h1
    · rw [List.getElem?_append_left (by rw [adj_length, prow_length]; omega), adj_get _ k _ _ (prow_get n k (by omega)) (prow_get n (k + 1) (by omega))]
      rfl
    · obtain rfl : k = n := by omega
      rw [List.getElem?_append_right (by rw [adj_length, prow_length]; omega), adj_length, prow_length, ch_self]
      simp
theorem prow60 : ((List.range 61).all fun n => (prow n).all fun x => Nat.ble x 118264581564861424) = true := by kernel_rfl
theorem ch_le {n k : Nat} (hn : n ≤ 60) : ch n k ≤ 118264581564861424 := by
  rcases Nat.lt_or_ge n k with h | h
  · rw [ch_gt n k h]; omega
  · have h1 := List.all_eq_true.1 prow60 n (List.mem_range.2 (by omega))
    have h2 := List.all_eq_true.1 h1 _ (List.mem_of_getElem? (prow_get n k h))
    exact Nat.le_of_ble_eq_true h2

theorem and32 (a : Nat) (h : a ≤ 18446744073709551615) : bitsA .and .u64 (a : Int) 4294967295 = some (.int .u64 ((a % 4294967296 : Nat) : Int)) := by
  have h1 : smallNat .u64 (a : Int) 4294967295 = some (a, 4294967295) := by
    show (bif Nat.ble a (topOf .u64) && Nat.ble 4294967295 (topOf .u64) then some (a, 4294967295) else none) = _
    have : Nat.ble a (topOf .u64) = true := by rw [Nat.ble_eq]; exact h
    rw [this]; rfl
  simp only [bitsA, h1]
  have : Nat.land a 4294967295 = a % 4294967296 := Nat.and_two_pow_sub_one_eq_mod a 32
  rw [this]; rfl
theorem shr32 (a : Nat) : shrA (a : Int) 32 = ((a / 4294967296 : Nat) : Int) := rfl
theorem wrapU {n : Nat} (h : n ≤ 18446744073709551615) : wrapA .u64 (n : Int) = n := by
  rw [wrapA_eq]; simp [IntKind.wrap, IntKind.bits, IntKind.signed]; omega

theorem c188 (a b : Nat) (ha : a < 144115188075855872) (hb : b < 64) (σ : St) : callI TT 188 [.int .u64 a, .int .u64 b] σ = some (.tup [.int .u64 0, .int .u64 ((a * b : Nat) : Int)], σ) := by
  refine (FnV.mk (args' := [.int .u64 a, .int .u64 b]) fn188 rfl md188 ⟨⟨[], 0⟩, ?_⟩ (fun _ => rfl) rfl) σ _ rfl
  obtain ⟨x0, hx0⟩ : ∃ x, x = a % 4294967296 := ⟨_, rfl⟩
  obtain ⟨x1, hx1⟩ : ∃ x, x = a / 4294967296 := ⟨_, rfl⟩
  have hx0l : x0 < 4294967296 := by omega
  have hx1l : x1 < 33554432 := by omega
  have e1 := and32 a (by omega)
  have e2 := shr32 a
  have e3 := and32 b (by omega)
  have e4 := shr32 b
  rw [← hx0] at e1
  rw [← hx1] at e2
  rw [show b % 4294967296 = b by omega] at e3
  rw [show b / 4294967296 = 0 by omega] at e4
  obtain ⟨w0, hw0⟩ : ∃ w, w = x0 * b := ⟨_, rfl⟩
  have hw0l : w0 < 4294967296 * 64 := by rw [hw0]; exact Nat.mul_lt_mul'' hx0l hb
  have m1 : wrapA .u64 ((x0 : Int) * b) = w0 := by rw [← Int.natCast_mul, wrapU (by omega), hw0]
  obtain ⟨w1, hw1⟩ : ∃ w, w = x1 * b := ⟨_, rfl⟩
  have hw1l : w1 < 33554432 * 64 := by rw [hw1]; exact Nat.mul_lt_mul'' hx1l hb
  have m2 : wrapA .u64 ((x1 : Int) * b) = w1 := by rw [← Int.natCast_mul, wrapU (by omega), hw1]
  have e5 := shr32 w0
  obtain ⟨t, ht⟩ : ∃ t, t = w1 + w0 / 4294967296 := ⟨_, rfl⟩
  have htl : t < 4294967296 := by omega
  have m3 : wrapA .u64 ((w1 : Int) + (w0 / 4294967296 : Nat)) = t := by rw [← Int.natCast_add, wrapU (by omega), ht]
  have e6 := and32 t (by omega)
  have e7 := shr32 t
  rw [show t % 4294967296 = t by omega] at e6
  rw [show t / 4294967296 = 0 by omega] at e7
  have m4 : wrapA .u64 ((a : Int) * b) = ((a * b : Nat) : Int) := by
    have : a * b ≤ 144115188075855872 * 64 := Nat.mul_le_mul (by omega) (by omega)
    rw [← Int.natCast_mul, wrapU (by omega)]
  have m5 : wrapA .u64 (0 : Int) = 0 := rfl
  have m6 : wrapA .u64 (t : Int) = t := wrapU (by omega)
  obtain ⟨z, hz⟩ : ∃ z, z = w0 / 4294967296 := ⟨_, rfl⟩
  obtain ⟨ab, hab⟩ : ∃ z, z = a * b := ⟨_, rfl⟩
  rw [← hz] at e5 m3
  rw [← hab] at m4 ⊢
  rw [show ((0 : Nat) : Int) = 0 from rfl] at e4 e7
  have hmin : min 32 IntKind.u64.bits = 32 := rfl
  rw [fi188]
  simp [xI_seq, xI_region, xI_ret, regA, regOps, runOps, opStep, wantedA, opA, evo, evos, calleeA, lk, nif_eq, putE, paramsE, valS, val2, keepE, restrict, finA, resA, binA, binInt, ofConst, ofConst1, loadA, TK.isAgg, asVar, unA, builtinA, lenOpA, lenA, ileb_cast, ileb_eq, ieqb_dec, indexAddrA, inB_dec, evPairs, storeA, AV.cellsOf, pairsOf, xI_nil, binBool, gcE, evOpt, xI_block, xI_loopH, xI_condM, xI_exitM, xI_skip, xI_blk, exitA, ty143, e1, e2, e3, e4, m1, m2, e5, m3, e6, e7, m4, m5, m6, hmin]

theorem c189 (a b : Nat) (hb : 0 < b) (hb2 : b ≤ 18446744073709551615) (ha : a ≤ 18446744073709551615) (σ : St) : ∃ r : Int, callI TT 189 [.int .u64 0, .int .u64 a, .int .u64 b] σ = some (.tup [.int .u64 ((a / b : Nat) : Int), .int .u64 r], σ) := by
  refine ⟨((a : Int).tmod b), (FnV.mk (args' := [.int .u64 0, .int .u64 a, .int .u64 b]) fn189 rfl md189 ⟨⟨[], 0⟩, ?_⟩ (fun _ => rfl) rfl) σ _ rfl⟩
  have h1 : ¬ (b : Int) = 0 := by omega
  have h1' : ¬ b = 0 := by omega
  have h2 : ¬ (b : Int) ≤ 0 := by omega
  obtain ⟨q, hq⟩ : ∃ q, q = a / b := ⟨_, rfl⟩
  have hq2 : q ≤ a := by rw [hq]; exact Nat.div_le_self _ _
  have h3 : (a : Int).tdiv b = q := by rw [hq]; rfl
  have h4 : wrapA .u64 (q : Int) = q := wrapU (by omega)
  rw [← hq, fi189]
  simp [xI_seq, xI_region, xI_ret, regA, regOps, runOps, opStep, wantedA, opA, evo, evos, calleeA, lk, nif_eq, putE, paramsE, valS, val2, keepE, restrict, finA, resA, binA, binInt, ofConst, ofConst1, loadA, TK.isAgg, asVar, unA, builtinA, lenOpA, lenA, ileb_cast, ileb_eq, ieqb_dec, indexAddrA, inB_dec, evPairs, storeA, AV.cellsOf, pairsOf, xI_nil, binBool, gcE, evOpt, xI_block, xI_loopH, xI_condM, xI_exitM, xI_skip, xI_blk, exitA, ty3, ty58, ty143, ty201, h1, h1', h2, h3, h4]

theorem inR_not {n lo hi : Int} (h : ¬ (lo ≤ n ∧ n ≤ hi)) : inR n lo hi = false := by simp only [inR]; simp; omega
noncomputable def b157 : Code := Try.f157.body.getD .skip
noncomputable def B157_0 : Code := (bodyC (bodyC (sndC (fstC (sndC (sndC (sndC b157)))))))
noncomputable def K157_0 : List It := .lp B157_0 :: .blk 0 :: .code (sndC (sndC (sndC (sndC b157)))) :: []
theorem xl157_0 {fi : FI} {env : Env} {σ : St} : exI TT fi K157_0 env σ = exI TT fi (.code B157_0 :: K157_0) env σ := by unfold K157_0; exact xI_lp
noncomputable def R157_0_0 : List It := .code (sndC (sndC (sndC (sndC b157)))) :: []
theorem eK157_0_0 : exitA 0 K157_0 = some R157_0_0 := rfl
theorem l157 (n k M : Nat) (hn : n ≤ 60) (hk : k ≤ n) (hM : M = min k (n - k)) : ∀ (m j : Nat) (σ : St), j + m = M →
    exI TT (FI.of Try.f157 (TT.an 157)) K157_0 [(0, .int .i64 n), (1, .int .i64 k), (5, .int .i64 (ch n j)), (6, .int .i64 (j + 1 : Nat))] σ = some (.int .i64 (ch n M), σ) := by
  have hw0 : wrapA .i64 ((n : Int) - k) = (n : Int) - k := wrapA_id (by omega) (by omega)
  have hmin : (if (n : Int) - k < k then (n : Int) - k else (k : Int)) = M := by split <;> omega
  intro m
  induction m with
  | zero =>
    intro j σ hj
    obtain rfl : j = M := by omega
    have hlt : ¬ j + 1 ≤ j := by omega
    have hlt2 : ¬ (j : Int) + 1 ≤ j := by omega
    generalize ch n j = o
    rw [fi157]
    rw [xl157_0]
    simp only [B157_0, b157, Try.f157, Option.getD, fstC, sndC, bodyC, thnC, elsC]
    simp [xI_seq, xI_region, xI_ret, regA, regOps, runOps, opStep, wantedA, opA, evo, evos, calleeA, lk, nif_eq, putE, paramsE, valS, val2, keepE, restrict, finA, resA, binA, binInt, ofConst, ofConst1, loadA, TK.isAgg, asVar, unA, builtinA, lenOpA, lenA, ileb_cast, ileb_eq, ieqb_dec, indexAddrA, inB_dec, evPairs, storeA, AV.cellsOf, pairsOf, xI_nil, binBool, gcE, evOpt, xI_block, xI_loopH, xI_condM, xI_exitM, xI_skip, xI_blk, exitA, ty2, ty4, ty143, eK157_0_0, minmaxA, mmStep, hw0, hmin, hlt, hlt2]
    simp only [R157_0_0, b157, Try.f157, Option.getD, fstC, sndC, bodyC, thnC, elsC]
    simp [xI_seq, xI_region, xI_ret, regA, regOps, runOps, opStep, wantedA, opA, evo, evos, calleeA, lk, nif_eq, putE, paramsE, valS, val2, keepE, restrict, finA, resA, binA, binInt, ofConst, ofConst1, loadA, TK.isAgg, asVar, unA, builtinA, lenOpA, lenA, ileb_cast, ileb_eq, ieqb_dec, indexAddrA, inB_dec, evPairs, storeA, AV.cellsOf, pairsOf, xI_nil, binBool, gcE, evOpt, xI_block, xI_loopH, xI_condM, xI_exitM, xI_skip, xI_blk, exitA, ty2, ty4, ty143, eK157_0_0]
  | succ m ih =>
    intro j σ hj
    have ih1 := ih (j + 1) σ (by omega)
    have hlt : (j : Int) + 1 ≤ M := by omega
    have hst := ch_step n j
    have ho := ch_le (n := n) (k := j) hn
    have ho2 := ch_le (n := n) (k := j + 1) hn
    generalize ch n j = o at *
    generalize ch n (j + 1) = o2 at *
    have u1 : wrapA .u64 (o : Int) = o := wrapU (by omega)
    have u2 : wrapA .i64 ((n : Int) - ((j : Int) + 1)) = (n : Int) - ((j : Int) + 1) := wrapA_id (by omega) (by omega)
    have u3 : wrapA .i64 ((n : Int) - ((j : Int) + 1) + 1) = ((n - j : Nat) : Int) := by rw [wrapA_id (by omega) (by omega)]; omega
    have u4 : wrapA .u64 ((n - j : Nat) : Int) = (n - j : Nat) := wrapU (by omega)
    have u5 : wrapA .u64 ((j : Int) + 1) = ((j + 1 : Nat) : Int) := wrapU (n := j + 1) (by omega)
    have u6 : wrapA .i64 (o2 : Int) = o2 := wrapA_id (by omega) (by omega)
    have u7 : wrapA .i64 ((j : Int) + 1 + 1) = (j : Int) + 1 + 1 := wrapA_id (by omega) (by omega)
    have hlo : o * (n - j) = (j + 1) * o2 := by rw [hst]; exact Nat.mul_comm _ _
    have hlt64 : o * (n - j) ≤ 144115188075855872 * 64 := Nat.mul_le_mul (by omega) (by omega)
    have c1 := c188 o (n - j) (by omega) (by omega) σ
    obtain ⟨rr, c2⟩ := c189 (o * (n - j)) (j + 1) (by omega) (by omega) (by omega) σ
    rw [hlo, Nat.mul_div_cancel_left _ (by omega : 0 < j + 1)] at c2
    rw [hlo] at c1
    generalize hnj : n - j = d at *
    generalize hlo2 : (j + 1) * o2 = lo at *
    generalize hj1 : j + 1 = i at *
    have hj1' : (j : Int) + 1 = i := by omega
    rw [hj1'] at hlt u2 u3 u5 u7
    have hj2 : ((i + 1 : Nat) : Int) = (i : Int) + 1 := by omega
    rw [hj2] at ih1
    rw [fi157] at ih1 ⊢
    rw [xl157_0]
    simp only [B157_0, b157, Try.f157, Option.getD, fstC, sndC, bodyC, thnC, elsC]
    simp [xI_seq, xI_region, xI_ret, regA, regOps, runOps, opStep, wantedA, opA, evo, evos, calleeA, lk, nif_eq, putE, paramsE, valS, val2, keepE, restrict, finA, resA, binA, binInt, ofConst, ofConst1, loadA, TK.isAgg, asVar, unA, builtinA, lenOpA, lenA, ileb_cast, ileb_eq, ieqb_dec, indexAddrA, inB_dec, evPairs, storeA, AV.cellsOf, pairsOf, xI_nil, binBool, gcE, evOpt, xI_block, xI_loopH, xI_condM, xI_exitM, xI_skip, xI_blk, exitA, ty2, ty4, ty143, eK157_0_0, minmaxA, mmStep, hw0, hmin, hlt, convA, u1, u2, u3, u4, u5, u6, u7, c1, c2]
    exact ih1
theorem c157 (n k : Nat) (hn : n ≤ 60) (hk0 : k < 1000000) (σ : St) : callI TT 157 [.int .i64 n, .int .i64 k] σ = some (.int .i64 (ch n k), σ) := by
  refine (FnV.mk (args' := [.int .i64 n, .int .i64 k]) fn157 rfl md157 ⟨⟨[], 0⟩, ?_⟩ (fun _ => rfl) rfl) σ _ rfl
  by_cases hk : k ≤ n
  · have hin : inR (k : Int) 0 n = true := inR_iff.2 (by omega)
    have h1 := l157 n k _ hn hk rfl (min k (n - k)) 0 ⟨[], 0⟩ (by omega)
    have he : ch n (min k (n - k)) = ch n k := by
      rcases Nat.le_total k (n - k) with h | h
      · rw [Nat.min_eq_left h]
      · rw [Nat.min_eq_right h, ← ch_symm n k hk]
    rw [he, ch_0] at h1
    rw [fi157] at h1 ⊢
    simp [xI_seq, xI_region, xI_ret, regA, regOps, runOps, opStep, wantedA, opA, evo, evos, calleeA, lk, nif_eq, putE, paramsE, valS, val2, keepE, restrict, finA, resA, binA, binInt, ofConst, ofConst1, loadA, TK.isAgg, asVar, unA, builtinA, lenOpA, lenA, ileb_cast, ileb_eq, ieqb_dec, indexAddrA, inB_dec, evPairs, storeA, AV.cellsOf, pairsOf, xI_nil, binBool, gcE, evOpt, xI_block, xI_loopH, xI_condM, xI_exitM, xI_skip, xI_blk, exitA, ty2, ty4, ty143, eK157_0_0, c63, hin]
    exact h1
  · have hin : inR (k : Int) 0 n = false := inR_not (by omega)
    rw [ch_gt n k (by omega), fi157]
    simp [xI_seq, xI_region, xI_ret, regA, regOps, runOps, opStep, wantedA, opA, evo, evos, calleeA, lk, nif_eq, putE, paramsE, valS, val2, keepE, restrict, finA, resA, binA, binInt, ofConst, ofConst1, loadA, TK.isAgg, asVar, unA, builtinA, lenOpA, lenA, ileb_cast, ileb_eq, ieqb_dec, indexAddrA, inB_dec, evPairs, storeA, AV.cellsOf, pairsOf, xI_nil, binBool, gcE, evOpt, xI_block, xI_loopH, xI_condM, xI_exitM, xI_skip, xI_blk, exitA, ty2, ty4, ty143, eK157_0_0, c63, hin]

noncomputable def b152 : Code := Try.f152.body.getD .skip
noncomputable def B152_0 : Code := (bodyC (bodyC (sndC (fstC (sndC (sndC b152))))))
noncomputable def K152_0 : List It := .lp B152_0 :: .blk 0 :: .code (sndC (sndC (sndC b152))) :: []
theorem xl152_0 {fi : FI} {env : Env} {σ : St} : exI TT fi K152_0 env σ = exI TT fi (.code B152_0 :: K152_0) env σ := by unfold K152_0; exact xI_lp
noncomputable def R152_0_0 : List It := .code (sndC (sndC (sndC b152))) :: []
theorem eK152_0_0 : exitA 0 K152_0 = some R152_0_0 := rfl
noncomputable def B152_1 : Code := (bodyC (bodyC (sndC (fstC (sndC (bodyC (fstC (sndC (bodyC (bodyC (sndC (fstC (sndC (sndC b152))))))))))))))
noncomputable def K152_1 : List It := .lp B152_1 :: .blk 2 :: .code (sndC (sndC (bodyC (fstC (sndC (bodyC (bodyC (sndC (fstC (sndC (sndC b152))))))))))) :: .blk 1 :: .code (sndC (sndC (bodyC (bodyC (sndC (fstC (sndC (sndC b152)))))))) :: K152_0
theorem xl152_1 {fi : FI} {env : Env} {σ : St} : exI TT fi K152_1 env σ = exI TT fi (.code B152_1 :: K152_1) env σ := by unfold K152_1; exact xI_lp
noncomputable def R152_1_2 : List It := .code (sndC (sndC (bodyC (fstC (sndC (bodyC (bodyC (sndC (fstC (sndC (sndC b152))))))))))) :: .blk 1 :: .code (sndC (sndC (bodyC (bodyC (sndC (fstC (sndC (sndC b152)))))))) :: K152_0
theorem eK152_1_2 : exitA 2 K152_1 = some R152_1_2 := rfl
noncomputable def R152_1_1 : List It := .code (sndC (sndC (bodyC (bodyC (sndC (fstC (sndC (sndC b152)))))))) :: K152_0
theorem eK152_1_1 : exitA 1 K152_1 = some R152_1_1 := rfl
theorem eK152_1_0 : exitA 0 K152_1 = some R152_0_0 := rfl
def natI (l : List Nat) : List Int := l.map fun (x : Nat) => (x : Int)
theorem natI_length (l : List Nat) : (natI l).length = l.length := by simp [natI]
theorem natI_get {l : List Nat} {i x : Nat} (h : l[i]? = some x) : (natI l)[i]? = some (x : Int) := by simp [natI, h]
theorem l152_1 (n k i : Nat) (hi : i < 100) (r : List Nat) (hrl : r.length = i + 1) (hv : ∀ x ∈ r, x ≤ 118264581564861424) : ∀ (m j : Nat) (σ : St) (b b2 : Nat), j + m = i + 1 → 1 ≤ j → b ≠ b2 → Row σ b (natI r) → Row σ b2 (natI (1 :: (adj r).take (j - 1))) →
    ∃ σ' b2', exI TT (FI.of Try.f152 (TT.an 152)) K152_1 [(0, .int .i64 n), (1, .int .i64 k), (5, .sl b 0 (i + 1) (i + 1)), (6, .int .i64 i), (7, .sl b2 0 j j), (8, .int .i64 j)] σ = exI TT (FI.of Try.f152 (TT.an 152)) R152_1_2 [(0, .int .i64 n), (1, .int .i64 k), (5, .sl b 0 (i + 1) (i + 1)), (6, .int .i64 i), (7, .sl b2' 0 (i + 1) (i + 1)), (8, .int .i64 (i + 1 : Nat)), (19, .bool false)] σ' ∧ b ≠ b2' ∧ Row σ' b (natI r) ∧ Row σ' b2' (natI (1 :: adj r)) := by
  intro m
  induction m with
  | zero =>
    intro j σ b b2 hj hj1 hbb h1 h2
    obtain rfl : j = i + 1 := by omega
    refine ⟨σ, b2, ?_, hbb, h1, ?_⟩
    · have e : ((i + 1 : Nat) : Int) = (i : Int) + 1 := by omega
      rw [e]
      rw [fi152]
      rw [xl152_1]
      simp only [B152_1, b152, Try.f152, Option.getD, fstC, sndC, bodyC, thnC, elsC]
      simp [xI_seq, xI_region, xI_ret, regA, regOps, runOps, opStep, wantedA, opA, evo, evos, calleeA, lk, nif_eq, putE, paramsE, valS, val2, keepE, restrict, finA, resA, binA, binInt, ofConst, ofConst1, loadA, TK.isAgg, asVar, unA, builtinA, lenOpA, lenA, ileb_cast, ileb_eq, ieqb_dec, indexAddrA, inB_dec, evPairs, storeA, AV.cellsOf, pairsOf, xI_nil, binBool, gcE, evOpt, xI_block, xI_loopH, xI_condM, xI_exitM, xI_skip, xI_blk, exitA, ty2, ty3, ty48, eK152_0_0, eK152_1_2, eK152_1_1, eK152_1_0]
    · rw [List.take_of_length_le (by rw [adj_length, hrl]; omega)] at h2; exact h2
  | succ m ih =>
    intro j σ b b2 hj hj1 hbb h1 h2
    obtain ⟨q, rfl⟩ : ∃ q, j = q + 1 := ⟨j - 1, by omega⟩
    obtain ⟨x, hx⟩ : ∃ x, r[q]? = some x := ⟨_, List.getElem?_eq_getElem (by omega)⟩
    obtain ⟨y, hy⟩ : ∃ y, r[q + 1]? = some y := ⟨_, List.getElem?_eq_getElem (by omega)⟩
    have hxv := hv x (List.mem_of_getElem? hx)
    have hyv := hv y (List.mem_of_getElem? hy)
    have hl2 : (natI (1 :: (adj r).take (q + 1 - 1))).length = q + 1 := by rw [natI_length]; simp [adj_length, hrl]; omega
    obtain ⟨σ1, ha, hr1, hn1, hf1⟩ := append_row (x := ((x + y : Nat) : Int)) ty48 ty2 h2 hl2.symm (by omega)
    have hr1' : Row σ1 (σ.n + 1) (natI (1 :: (adj r).take (q + 1 + 1 - 1))) := by
      have : (adj r).take (q + 1) = (adj r).take q ++ [x + y] := by
        rw [List.take_add_one, adj_get r q x y hx hy]; rfl
      simpa [natI, this] using hr1
    obtain ⟨σ', b2', h3, h4, h5, h6⟩ := ih (q + 1 + 1) σ1 b (σ.n + 1) (by omega) (by omega) (by have := h1.lt; omega) (h1.keep (by omega) (hf1 b hbb h1.lt)) hr1'
    refine ⟨σ', b2', ?_, h4, h5, h6⟩
    have g1 := h1.read (natI_get hx)
    have g2 := h1.read (natI_get hy)
    have hlt : ¬ (i + 1 ≤ q + 1) := by omega
    have hlt' : ¬ (i ≤ q) := by omega
    have hlt2 : (q : Int) < (i : Int) + 1 := by omega
    have hlt3 : (q : Int) + 1 < (i : Int) + 1 := by omega
    have hlt4 : ¬ (i : Int) + 1 ≤ (q : Int) + 1 := by omega
    have hw1 : wrapA .i64 (q : Int) = (q : Int) := wrapA_id (by omega) (by omega)
    have hw2 : wrapA .i64 ((x : Int) + y) = ((x + y : Nat) : Int) := by rw [wrapA_id (by omega) (by omega)]; omega
    have hw3 : wrapA .i64 ((q : Int) + 1 + 1) = (q : Int) + 1 + 1 := wrapA_id (by omega) (by omega)
    have hz : (0 : Int) ≤ (q : Int) + 1 := by omega
    have htn : ((q : Int) + 1).toNat = q + 1 := by omega
    generalize hs : x + y = s at *
    have hq1 : ((q + 1 : Nat) : Int) = (q : Int) + 1 := by omega
    have hq2 : ((q + 1 + 1 : Nat) : Int) = (q : Int) + 1 + 1 := by omega
    rw [hq1]
    rw [hq2] at h3
    rw [fi152] at h3 ⊢
    rw [xl152_1]
    simp only [B152_1, b152, Try.f152, Option.getD, fstC, sndC, bodyC, thnC, elsC]
    simp [xI_seq, xI_region, xI_ret, regA, regOps, runOps, opStep, wantedA, opA, evo, evos, calleeA, lk, nif_eq, putE, paramsE, valS, val2, keepE, restrict, finA, resA, binA, binInt, ofConst, ofConst1, loadA, TK.isAgg, asVar, unA, builtinA, lenOpA, lenA, ileb_cast, ileb_eq, ieqb_dec, indexAddrA, inB_dec, evPairs, storeA, AV.cellsOf, pairsOf, xI_nil, binBool, gcE, evOpt, xI_block, xI_loopH, xI_condM, xI_exitM, xI_skip, xI_blk, exitA, ty2, ty3, ty48, eK152_0_0, eK152_1_2, eK152_1_1, eK152_1_0, hlt, hlt', hlt2, hlt3, hlt4, hw1, hw2, hw3, hz, htn, g1, g2, bs1, ha]
    exact h3
theorem l152_0 (n k : Nat) (hn : n ≤ 60) (hk : k ≤ n) : ∀ (m i : Nat) (σ : St) (b : Nat), i + m = n → Row σ b (natI (prow i)) →
    ∃ σ', exI TT (FI.of Try.f152 (TT.an 152)) K152_0 [(0, .int .i64 n), (1, .int .i64 k), (5, .sl b 0 (i + 1) (i + 1)), (6, .int .i64 i)] σ = some (.int .i64 (ch n k), σ') := by
  intro m
  induction m with
  | zero =>
    intro i σ b hi hr
    obtain rfl : i = n := by omega
    refine ⟨σ, ?_⟩
    have g1 := hr.read (natI_get (prow_get i k hk))
    have hlt : k < i + 1 := by omega
    have hlt2 : (k : Int) < (i : Int) + 1 := by omega
    rw [fi152]
    rw [xl152_0]
    simp only [B152_0, b152, Try.f152, Option.getD, fstC, sndC, bodyC, thnC, elsC]
    simp [xI_seq, xI_region, xI_ret, regA, regOps, runOps, opStep, wantedA, opA, evo, evos, calleeA, lk, nif_eq, putE, paramsE, valS, val2, keepE, restrict, finA, resA, binA, binInt, ofConst, ofConst1, loadA, TK.isAgg, asVar, unA, builtinA, lenOpA, lenA, ileb_cast, ileb_eq, ieqb_dec, indexAddrA, inB_dec, evPairs, storeA, AV.cellsOf, pairsOf, xI_nil, binBool, gcE, evOpt, xI_block, xI_loopH, xI_condM, xI_exitM, xI_skip, xI_blk, exitA, ty2, ty3, ty48, eK152_0_0, eK152_1_2, eK152_1_1, eK152_1_0]
    simp only [R152_0_0, b152, Try.f152, Option.getD, fstC, sndC, bodyC, thnC, elsC]
    simp [xI_seq, xI_region, xI_ret, regA, regOps, runOps, opStep, wantedA, opA, evo, evos, calleeA, lk, nif_eq, putE, paramsE, valS, val2, keepE, restrict, finA, resA, binA, binInt, ofConst, ofConst1, loadA, TK.isAgg, asVar, unA, builtinA, lenOpA, lenA, ileb_cast, ileb_eq, ieqb_dec, indexAddrA, inB_dec, evPairs, storeA, AV.cellsOf, pairsOf, xI_nil, binBool, gcE, evOpt, xI_block, xI_loopH, xI_condM, xI_exitM, xI_skip, xI_blk, exitA, ty2, ty3, ty48, eK152_0_0, eK152_1_2, eK152_1_1, eK152_1_0, hlt, hlt2, g1]
  | succ m ih =>
    intro i σ b hi hr
    have hlt : ¬ n ≤ i := by omega
    have hw := wrapS (n := i) (by omega)
    have hr0 := Row.push (σ := σ) (l := [1]) (o := false)
    have hbn := hr.lt
    obtain ⟨σ1, b1, h1, h2, h3, h4⟩ := l152_1 n k i (by omega) (prow i) (prow_length i) (fun x hx => by
      obtain ⟨j, hj⟩ := List.getElem?_of_mem hx
      have hjl := (List.getElem?_eq_some_iff.1 hj).1
      rw [prow_length] at hjl
      rw [prow_get i j (by omega)] at hj
      cases hj
      exact ch_le (by omega)) i 1 (σ.push ⟨ints [1], 1, false⟩) b σ.n (by omega) (by omega) (by omega) hr.pushed (by simpa [natI] using hr0)
    have hl4 : (natI (1 :: adj (prow i))).length = i + 1 := by rw [natI_length]; simp [adj_length, prow_length]
    obtain ⟨σ2, ha, hr2, hn2, hf2⟩ := append_row (x := 1) ty48 ty2 h4 hl4.symm (by omega)
    have hr2' : Row σ2 (σ1.n + 1) (natI (prow (i + 1))) := by simpa [natI, prow] using hr2
    obtain ⟨σ', h5⟩ := ih (i + 1) σ2 (σ1.n + 1) (by omega) hr2'
    refine ⟨σ', ?_⟩
    have hi1 : ((i + 1 : Nat) : Int) = (i : Int) + 1 := by omega
    rw [hi1] at h5
    have h6 : exI TT (FI.of Try.f152 (TT.an 152)) R152_1_2 [(0, .int .i64 n), (1, .int .i64 k), (5, .sl b 0 (i + 1) (i + 1)), (6, .int .i64 i), (7, .sl b1 0 (i + 1) (i + 1)), (8, .int .i64 (i + 1 : Nat)), (19, .bool false)] σ1 = some (.int .i64 (ch n k), σ') := by
      rw [fi152] at h5 ⊢
      simp only [R152_1_2, b152, Try.f152, Option.getD, fstC, sndC, bodyC, thnC, elsC]
      simp [xI_seq, xI_region, xI_ret, regA, regOps, runOps, opStep, wantedA, opA, evo, evos, calleeA, lk, nif_eq, putE, paramsE, valS, val2, keepE, restrict, finA, resA, binA, binInt, ofConst, ofConst1, loadA, TK.isAgg, asVar, unA, builtinA, lenOpA, lenA, ileb_cast, ileb_eq, ieqb_dec, indexAddrA, inB_dec, evPairs, storeA, AV.cellsOf, pairsOf, xI_nil, binBool, gcE, evOpt, xI_block, xI_loopH, xI_condM, xI_exitM, xI_skip, xI_blk, exitA, ty2, ty3, ty48, eK152_0_0, eK152_1_2, eK152_1_1, eK152_1_0, bs1, ha, hw]
      exact h5
    rw [h6] at h1
    rw [fi152] at h1 ⊢
    rw [xl152_0]
    simp only [B152_0, b152, Try.f152, Option.getD, fstC, sndC, bodyC, thnC, elsC]
    simp [xI_seq, xI_region, xI_ret, regA, regOps, runOps, opStep, wantedA, opA, evo, evos, calleeA, lk, nif_eq, putE, paramsE, valS, val2, keepE, restrict, finA, resA, binA, binInt, ofConst, ofConst1, loadA, TK.isAgg, asVar, unA, builtinA, lenOpA, lenA, ileb_cast, ileb_eq, ieqb_dec, indexAddrA, inB_dec, evPairs, storeA, AV.cellsOf, pairsOf, xI_nil, binBool, gcE, evOpt, xI_block, xI_loopH, xI_condM, xI_exitM, xI_skip, xI_blk, exitA, ty2, ty3, ty48, eK152_0_0, eK152_1_2, eK152_1_1, eK152_1_0, hlt, bs1]
    exact h1
theorem c152 (n k : Nat) (hn : n ≤ 60) (hk : k ≤ n) (σ : St) : callI TT 152 [.int .i64 n, .int .i64 k] σ = some (.int .i64 (ch n k), σ) := by
  obtain ⟨σ', h1⟩ := l152_0 n k hn hk n 0 ((⟨[], 0⟩ : St).push ⟨ints [1], 1, false⟩) 0 (by omega) ⟨false, rfl, by decide⟩
  refine (FnV.mk (args' := [.int .i64 n, .int .i64 k]) fn152 rfl md152 ⟨σ', ?_⟩ (fun _ => rfl) rfl) σ _ rfl
  have hb := bs1 ⟨[], 0⟩ 1
  rw [fi152] at h1 ⊢
  simp [xI_seq, xI_region, xI_ret, regA, regOps, runOps, opStep, wantedA, opA, evo, evos, calleeA, lk, nif_eq, putE, paramsE, valS, val2, keepE, restrict, finA, resA, binA, binInt, ofConst, ofConst1, loadA, TK.isAgg, asVar, unA, builtinA, lenOpA, lenA, ileb_cast, ileb_eq, ieqb_dec, indexAddrA, inB_dec, evPairs, storeA, AV.cellsOf, pairsOf, xI_nil, binBool, gcE, evOpt, xI_block, xI_loopH, xI_condM, xI_exitM, xI_skip, xI_blk, exitA, ty2, ty3, ty48, eK152_0_0, eK152_1_2, eK152_1_1, eK152_1_0, hb]
  exact h1

theorem pow_sh2 (i : Nat) (hi : i ≤ 60) : wrapA .i64 (shlA (1 : Int) (min i IntKind.i64.bits)) = ((2 ^ i : Nat) : Int) := by
  rw [Nat.min_eq_left (by simp [IntKind.bits]; omega)]
  have e : shlA (1 : Int) i = ((1 * 2 ^ i : Nat) : Int) := rfl
  have h : 2 ^ i ≤ 2 ^ 60 := Nat.pow_le_pow_right (by decide) hi
  rw [e, Nat.one_mul]
  exact wi64 (Nat.le_trans h (by decide))

theorem r106w {n : Int} {d : Nat} (h1 : -1000000000000000000 ≤ n) (h2 : n ≤ 1000000000000000000) (hd : 0 < d) (hd2 : d < 2305843009213693952) : FnF TT 106 [.int .i64 n, .int .i64 d] (RT (mkRat n d)) := by
  have hl := r150 (decide (n < 0)) n.natAbs d 61 hd (Nat.lt_of_le_of_lt (show n.natAbs ≤ 1000000000000000000 by omega) (by decide)) hd2 (by decide)
  rw [sg_int] at hl
  exact FnF.mkv fn106 rfl md106 (k106 n d n.natAbs _ _ _ _ _ _ _ _ _ _ (ileb_neg n) (fun σ => (v137 n (by omega) (by omega)) σ _ rfl) (fun σ => (v136 n.natAbs (by omega)).pure σ rfl rfl) (fun σ => (v136 d (by omega)).pure σ rfl rfl) (fun σ => hl.pure σ rfl rfl)) (fun _ => rfl)

def frF : AV := .tup [.agg [.int .i64 0, .int .i64 0], .bool false]
theorem frA_is (q : Rat) : ∃ a b c, frA q = .tup [.agg [.int .i64 a, .int .i64 b], .bool c] := by
  unfold frA
  split <;> exact ⟨_, _, _, rfl⟩
theorem frA_frz (q : Rat) (σ : St) : frzV σ frzDepth (frA q) = some (frA q) := by
  obtain ⟨a, b, c, h⟩ := frA_is q
  rw [h]; rfl
theorem frA_scal (q : Rat) : (frA q).scal = true := by
  obtain ⟨a, b, c, h⟩ := frA_is q
  rw [h]; rfl
theorem frA_yes {q : Rat} (h : fits q = true) : frA q = .tup [.agg [.int .i64 q.num, .int .i64 q.den], .bool true] := by rw [frA, if_pos h]
/-- The chance of an order of n things with s rising sequences after r riffles. -/
def chance (n s r : Nat) : Rat := mkRat (ch (2 ^ r + n - s) n : Nat) (2 ^ (r * n))
theorem pow_le5 {r : Nat} (h : r ≤ 5) : 2 ^ r ≤ 32 ∧ 1 ≤ 2 ^ r := ⟨Nat.pow_le_pow_right (by decide) h, Nat.one_le_two_pow⟩
theorem rn_le {n r : Nat} (hn : n ≤ 12) (hr : r ≤ 5) : r * n ≤ 60 := Nat.mul_le_mul hr hn
set_option maxHeartbeats 4000000 in
theorem y87   :
    ∃ σ', exI TT (FI.of Try.f87 (TT.an 87)) [.code (Try.f87.body.getD .skip)] (paramsE 0 []) ⟨[], 0⟩ = some (.agg [.int .i64 0, .int .i64 1], σ') := by
  refine ex1 ?_
  rw [fi87]
  simp only [Try.f87, Option.getD]
  simp (maxSteps := 1000000) (disch := omega) [cellsAt, getCells, takeN, dropN, fieldAddrA, allOne, AV.one, n_push, storeCellsA, putN, overN, St.push, St.get, St.set, hget, hset, blt_dec, buildA, sizesOf, fillA, putCells, List.take_succ_cons, List.take_zero, List.drop_succ_cons, List.drop_zero, List.nil_append, List.cons_append, List.length_cons, List.length_nil, eqvs_dgs]
theorem z87 : FnV TT 87 [] (.agg [.int .i64 0, .int .i64 1]) := FnV.mk fn87 rfl md87 y87 (fun _ => rfl) rfl
set_option maxHeartbeats 4000000 in
theorem k97 (n s r k : Nat) (P A m C Qd : Int) (b1 : Bool) (n1 n2 : Nat) (x1 x2 : List AV) (h1 : wrapA .i64 (shlA (1 : Int) (min r IntKind.i64.bits)) = P) (h2 : wrapA .i64 (P + n) = A) (h3 : wrapA .i64 (A - s) = m) (c1 : ∀ σ, callI TT 157 [.int .i64 m, .int .i64 n] σ = some (.int .i64 C, σ)) (h4 : wrapA .i64 ((r : Int) * n) = (k : Int)) (h5 : wrapA .i64 (shlA (1 : Int) (min k IntKind.i64.bits)) = Qd) (c2 : ∀ σ, callI TT 106 [.int .i64 C, .int .i64 Qd] σ = some (.agg [.bool b1, .lst n1 x1, .lst n2 x2], σ)) :
    ∃ σ', exI TT (FI.of Try.f97 (TT.an 97)) [.code (Try.f97.body.getD .skip)] (paramsE 0 [.int .i64 n, .int .i64 s, .int .i64 r]) ⟨[], 0⟩ = some (.agg [.bool b1, .lst n1 x1, .lst n2 x2], σ') := by
  refine ex1 ?_
  rw [fi97]
  simp only [Try.f97, Option.getD]
  simp (maxSteps := 1000000) (disch := omega) [cellsAt, getCells, takeN, dropN, fieldAddrA, allOne, AV.one, n_push, storeCellsA, putN, overN, St.push, St.get, St.set, hget, hset, blt_dec, buildA, sizesOf, fillA, putCells, List.take_succ_cons, List.take_zero, List.drop_succ_cons, List.drop_zero, List.nil_append, List.cons_append, List.length_cons, List.length_nil, eqvs_dgs, convA, h1, h2, h3, c1, h4, h5, c2]
theorem r97 (n s r : Nat) (hn : n ≤ 12) (hs : s ≤ n) (hr : r ≤ 5) : FnF TT 97 [.int .i64 n, .int .i64 s, .int .i64 r] (RT (chance n s r)) := by
  obtain ⟨p1, p2⟩ := pow_le5 hr
  have hrn := rn_le hn hr
  have hp : 2 ^ (r * n) ≤ 2 ^ 60 := Nat.pow_le_pow_right (by decide) hrn
  have hp0 : 0 < 2 ^ (r * n) := Nat.two_pow_pos _
  have hch := ch_le (n := 2 ^ r + n - s) (k := n) (by omega)
  have c1 := fun σ => c157 (2 ^ r + n - s) n (by omega) (by omega) σ
  have c2 := r106w (n := (ch (2 ^ r + n - s) n : Nat)) (d := 2 ^ (r * n)) (by omega) (by omega) hp0 (Nat.lt_of_le_of_lt hp (by decide))
  have h1 := pow_sh2 r (by omega)
  have h5 := pow_sh2 (r * n) hrn
  have h4 : wrapA .i64 ((r : Int) * n) = ((r * n : Nat) : Int) := by rw [← Int.natCast_mul]; exact wrapA_id (by omega) (by omega)
  exact FnF.mkv fn97 rfl md97 (k97 n s r (r * n) ((2 ^ r : Nat) : Int) ((2 ^ r + n : Nat) : Int) ((2 ^ r + n - s : Nat) : Int) _ _ _ _ _ _ _ h1 (by rw [← Int.natCast_add]; exact wrapA_id (by omega) (by omega)) (by rw [← Int.ofNat_sub (by omega)]; exact wrapA_id (by omega) (by omega)) c1 h4 h5 (fun σ => c2.pure σ rfl rfl)) (fun _ => rfl)

set_option maxHeartbeats 4000000 in
theorem k95z (n s r : Nat) (P A m : Int) (hr : wrapA .u64 (r : Int) = (r : Int)) (h1 : wrapA .i64 (shlA (1 : Int) (min r IntKind.i64.bits)) = P) (h2 : wrapA .i64 (P + n) = A) (h3 : wrapA .i64 (A - s) = m) (hm : m < n) (c0 : ∀ σ, callI TT 87 [] σ = some (.agg [.int .i64 0, .int .i64 1], σ)) :
    ∃ σ', exI TT (FI.of Try.f95 (TT.an 95)) [.code (Try.f95.body.getD .skip)] (paramsE 0 [.int .i64 n, .int .i64 s, .int .i64 r]) ⟨[], 0⟩ = some (.agg [.int .i64 0, .int .i64 1], σ') := by
  refine ex1 ?_
  rw [fi95]
  simp only [Try.f95, Option.getD]
  simp (maxSteps := 1000000) (disch := omega) [cellsAt, getCells, takeN, dropN, fieldAddrA, allOne, AV.one, n_push, storeCellsA, putN, overN, St.push, St.get, St.set, hget, hset, blt_dec, buildA, sizesOf, fillA, putCells, List.take_succ_cons, List.take_zero, List.drop_succ_cons, List.drop_zero, List.nil_append, List.cons_append, List.length_cons, List.length_nil, eqvs_dgs, convA, hr, h1, h2, h3, hm, c0]
set_option maxHeartbeats 4000000 in
theorem k95 (n s r k : Nat) (P A m C Qd : Int) (x y : Int) (hr : wrapA .u64 (r : Int) = (r : Int)) (h1 : wrapA .i64 (shlA (1 : Int) (min r IntKind.i64.bits)) = P) (h2 : wrapA .i64 (P + n) = A) (h3 : wrapA .i64 (A - s) = m) (hm : (n : Int) ≤ m) (c1 : ∀ σ, callI TT 152 [.int .i64 m, .int .i64 n] σ = some (.int .i64 C, σ)) (h4 : wrapA .i64 ((r : Int) * n) = (k : Int)) (hk : wrapA .u64 (k : Int) = (k : Int)) (h5 : wrapA .i64 (shlA (1 : Int) (min k IntKind.i64.bits)) = Qd) (c2 : ∀ σ, callI TT 100 [.int .i64 C, .int .i64 Qd] σ = some (.agg [.int .i64 x, .int .i64 y], σ)) :
    ∃ σ', exI TT (FI.of Try.f95 (TT.an 95)) [.code (Try.f95.body.getD .skip)] (paramsE 0 [.int .i64 n, .int .i64 s, .int .i64 r]) ⟨[], 0⟩ = some (.agg [.int .i64 x, .int .i64 y], σ') := by
  refine ex1 ?_
  rw [fi95]
  simp only [Try.f95, Option.getD]
  simp (maxSteps := 1000000) (disch := omega) [cellsAt, getCells, takeN, dropN, fieldAddrA, allOne, AV.one, n_push, storeCellsA, putN, overN, St.push, St.get, St.set, hget, hset, blt_dec, buildA, sizesOf, fillA, putCells, List.take_succ_cons, List.take_zero, List.drop_succ_cons, List.drop_zero, List.nil_append, List.cons_append, List.length_cons, List.length_nil, eqvs_dgs, convA, hr, h1, h2, h3, hm, c1, h4, hk, h5, c2]
theorem r95 (n s r : Nat) (hn : n ≤ 12) (hs : s ≤ n) (hr : r ≤ 5) : FnV TT 95 [.int .i64 n, .int .i64 s, .int .i64 r] (.agg [.int .i64 (chance n s r).num, .int .i64 (chance n s r).den]) := by
  obtain ⟨p1, p2⟩ := pow_le5 hr
  have hrn := rn_le hn hr
  have hp : 2 ^ (r * n) ≤ 2 ^ 60 := Nat.pow_le_pow_right (by decide) hrn
  have hp0 : 0 < 2 ^ (r * n) := Nat.two_pow_pos _
  have hch := ch_le (n := 2 ^ r + n - s) (k := n) (by omega)
  have h1 := pow_sh2 r (by omega)
  have h5 := pow_sh2 (r * n) hrn
  have h4 : wrapA .i64 ((r : Int) * n) = ((r * n : Nat) : Int) := by rw [← Int.natCast_mul]; exact wrapA_id (by omega) (by omega)
  have h2 : wrapA .i64 (((2 ^ r : Nat) : Int) + n) = ((2 ^ r + n : Nat) : Int) := by rw [← Int.natCast_add]; exact wrapA_id (by omega) (by omega)
  have h3 : wrapA .i64 (((2 ^ r + n : Nat) : Int) - s) = ((2 ^ r + n - s : Nat) : Int) := by rw [← Int.ofNat_sub (by omega)]; exact wrapA_id (by omega) (by omega)
  have hrr : wrapA .u64 (r : Int) = (r : Int) := w64 (by omega)
  by_cases hm : 2 ^ r + n - s < n
  · have h0 : chance n s r = 0 := by rw [chance, ch_gt _ _ hm]; exact Rat.zero_mkRat _
    rw [h0]
    exact FnV.mk fn95 rfl md95 (k95z n s r _ _ _ hrr h1 h2 h3 (by omega) (fun σ => z87 σ [] rfl)) (fun _ => rfl) rfl
  · have c1 := fun σ => c152 (2 ^ r + n - s) n (by omega) (by omega) σ
    have c2 := v100 (ch (2 ^ r + n - s) n : Nat) (2 ^ (r * n)) (by omega) (by omega) hp0 (by omega)
    exact FnV.mk fn95 rfl md95 (k95 n s r (r * n) _ _ _ _ _ _ _ hrr h1 h2 h3 (by omega) c1 h4 (w64 (by omega)) h5 (fun σ => c2 σ _ rfl)) (fun _ => rfl) rfl
theorem chance_fits (n s r : Nat) (hn : n ≤ 12) (hs : s ≤ n) (hr : r ≤ 5) (h : r * n ≤ 59) : fits (chance n s r) = true := by
  obtain ⟨p1, p2⟩ := pow_le5 hr
  have hp : 2 ^ (r * n) ≤ 2 ^ 59 := Nat.pow_le_pow_right (by decide) h
  have hp0 : 0 < 2 ^ (r * n) := Nat.two_pow_pos _
  have hch := ch_le (n := 2 ^ r + n - s) (k := n) (by omega)
  have := low_num false (ch (2 ^ r + n - s) n) (2 ^ (r * n)) (by omega)
  obtain ⟨e1, e2, _⟩ := this
  refine fits_iff.2 ⟨?_, ?_⟩
  · show nm (mkRat (sg false _) _) ≤ _
    rw [nm, e1]; exact Nat.le_trans (Nat.div_le_self _ _) (by omega)
  · show (mkRat (sg false _) _).den ≤ _
    rw [e2]; exact Nat.le_trans (Nat.div_le_self _ _) (Nat.le_trans hp (by decide))

theorem chance_bd (n s r : Nat) (hn : n ≤ 12) (hs : s ≤ n) (hr : r ≤ 5) : Bd 61 (chance n s r) := by
  obtain ⟨p1, p2⟩ := pow_le5 hr
  have hp : 2 ^ (r * n) ≤ 2 ^ 60 := Nat.pow_le_pow_right (by decide) (rn_le hn hr)
  have hp0 : 0 < 2 ^ (r * n) := Nat.two_pow_pos _
  have hch := ch_le (n := 2 ^ r + n - s) (k := n) (by omega)
  exact low_bd (b := false) (by omega) (Nat.lt_of_le_of_lt hch (by decide)) (Nat.lt_of_le_of_lt hp (by decide))
theorem r26 (a b : Int) : FnV TT 26 [.agg [.int .i64 a, .int .i64 b], .agg [.int .i64 a, .int .i64 b]] (.bool true) := by
  refine FnV.mk (c := Try.f26.body.getD .skip) fn26 rfl md26 (ex1 ?_) (fun _ => rfl) rfl
  rw [fi26]
  simp only [Try.f26, Option.getD]
  simp (maxSteps := 1000000) (disch := omega) [cellsAt, getCells, takeN, dropN, fieldAddrA, allOne, AV.one, n_push, storeCellsA, putN, overN, St.push, St.get, St.set, hget, hset, blt_dec, buildA, sizesOf, fillA, putCells, List.take_succ_cons, List.take_zero, List.drop_succ_cons, List.drop_zero, List.nil_append, List.cons_append, List.length_cons, List.length_nil, eqvs_dgs]

/-- A box with some cells. -/
def Bx (σ : St) (b : Nat) (vs : List AV) : Prop := (∃ n, σ.get b = some ⟨vs, n, false⟩) ∧ b < σ.n
theorem Bx.rd {σ : St} {b n : Nat} {vs : List AV} (h : Bx σ b vs) (hn : vs.length = n) : cellsAt σ (.ptr b 0) n = some vs := by
  obtain ⟨⟨m, h⟩, _⟩ := h
  simp only [cellsAt, h, getCells_eq]
  rw [if_pos (by omega), List.drop_zero, List.take_of_length_le (by omega)]
theorem Bx.st {σ : St} {b : Nat} {vs ws : List AV} (h : Bx σ b vs) (hl : ws.length = vs.length) (ho : allOne ws = true) : ∃ σ', storeCellsA σ b 0 ws = some σ' ∧ Bx σ' b ws ∧ But b σ σ' := by
  obtain ⟨⟨m, hg⟩, hlt⟩ := h
  refine ⟨σ.set b ⟨ws, m, false⟩, ?_, ⟨⟨m, get_set_eq hg⟩, hlt⟩, rfl, fun c hc => get_set_ne (fun e => hc e.symm)⟩
  rw [storeCellsA_eq, hg]
  simp only [putCells]
  rw [if_pos ⟨by omega, ho⟩, List.take_zero, List.nil_append, Nat.zero_add, List.drop_of_length_le (by omega), List.append_nil]
theorem Bx.old {σ σ' : St} {b : Nat} {vs : List AV} (h : Bx σ b vs) (k : Old σ σ') : Bx σ' b vs := by
  obtain ⟨⟨m, hg⟩, hlt⟩ := h
  exact ⟨⟨m, by rw [k.2 b hlt]; exact hg⟩, Nat.lt_of_lt_of_le hlt k.1⟩
theorem Bx.but {σ σ' : St} {b c : Nat} {vs : List AV} (h : Bx σ c vs) (hc : c ≠ b) (k : But b σ σ') : Bx σ' c vs := by
  obtain ⟨⟨m, hg⟩, hlt⟩ := h
  exact ⟨⟨m, by rw [k.2 c hc]; exact hg⟩, by rw [k.1]; exact hlt⟩
theorem Bx.push {σ : St} {vs : List AV} {m : Nat} : Bx (σ.push ⟨vs, m, false⟩) σ.n vs := ⟨⟨m, get_push_same⟩, Nat.lt_succ_self _⟩
theorem Bx.lt {σ : St} {b : Nat} {vs : List AV} (h : Bx σ b vs) : b < σ.n := h.2

def RC (q : Rat) : List AV := [.bool (ng q), NA (nm q), NA q.den]
theorem RC_one (q : Rat) : allOne (RC q) = true := rfl
theorem RC_eqv (q : Rat) : eqvs (RC q) (RC q) = true := by simp [RC, eqvs, AV.eqv, NA, eqvs_dgs]

/-- A variable of a loop: a new box. -/
theorem new_box {σ : St} {z x : List AV} {m : Nat} (hz : z.length = x.length) (hx : allOne x = true) : ∃ σ2, storeCellsA (σ.push ⟨z, m, false⟩) σ.n 0 x = some σ2 ∧ Bx σ2 σ.n x ∧ Old σ σ2 ∧ σ2.n = σ.n + 1 := by
  have h1 : Bx (σ.push ⟨z, m, false⟩) σ.n z := Bx.push
  obtain ⟨σ2, a1, a2, a3⟩ := h1.st (ws := x) hz.symm hx
  exact ⟨σ2, a1, a2, ⟨by rw [a3.1]; exact Nat.le_succ _, fun c hc => by rw [a3.2 c (by omega)]; exact get_push_lt hc⟩, a3.1⟩

/-- Sums. -/
def sumI (f : Nat → Rat) : Nat → Rat
  | 0 => 0
  | n + 1 => sumI f n + f n

def frzO (r : Option (AV × St)) : Option AV := match r with
  | some (v, σ) => frzV σ frzDepth v
  | none => none
theorem FnF_exec {T : Tab} {f : FuncId} {F : Func} {c : Code} {args' : List AV} {v : AV} (n : Nat) (hF : T.fn f = some F) (hB : F.body = some c) (hm : (T.an f).mode = 1) (h : frzO (exec T n (FI.of F (T.an f)) [.code c] (paramsE 0 args') ⟨[], 0⟩) = some v) : FnF T f args' v := by
  cases hx : exec T n (FI.of F (T.an f)) [.code c] (paramsE 0 args') ⟨[], 0⟩ with
  | none => rw [hx] at h; cases h
  | some r =>
    obtain ⟨w, σ1⟩ := r
    rw [hx] at h
    exact FnF.mk hF hB hm ⟨σ1, w, exI_iff.2 ⟨n, hx⟩, h⟩
/-- How many orders of n things have how many rising sequences. -/
def eul : Nat → List Int
  | 1 => [0, 1, 0, 0, 0, 0, 0, 0, 0, 0, 0, 0, 0]
  | 2 => [0, 1, 1, 0, 0, 0, 0, 0, 0, 0, 0, 0, 0]
  | 3 => [0, 1, 4, 1, 0, 0, 0, 0, 0, 0, 0, 0, 0]
  | 4 => [0, 1, 11, 11, 1, 0, 0, 0, 0, 0, 0, 0, 0]
  | 5 => [0, 1, 26, 66, 26, 1, 0, 0, 0, 0, 0, 0, 0]
  | 6 => [0, 1, 57, 302, 302, 57, 1, 0, 0, 0, 0, 0, 0]
  | 7 => [0, 1, 120, 1191, 2416, 1191, 120, 1, 0, 0, 0, 0, 0]
  | 8 => [0, 1, 247, 4293, 15619, 15619, 4293, 247, 1, 0, 0, 0, 0]
  | _ => []
def facN : Nat → Nat
  | 1 => 1
  | 2 => 2
  | 3 => 6
  | 4 => 24
  | 5 => 120
  | 6 => 720
  | 7 => 5040
  | 8 => 40320
  | _ => 1
theorem n8 {P : Nat → Prop} (h1 : P 1) (h2 : P 2) (h3 : P 3) (h4 : P 4) (h5 : P 5) (h6 : P 6) (h7 : P 7) (h8 : P 8) : ∀ n, 1 ≤ n → n ≤ 8 → P n := by
  intro n h h'
  have : n = 1 ∨ n = 2 ∨ n = 3 ∨ n = 4 ∨ n = 5 ∨ n = 6 ∨ n = 7 ∨ n = 8 := by omega
  rcases this with rfl | rfl | rfl | rfl | rfl | rfl | rfl | rfl <;> assumption

theorem x108_1 : FnF TT 108 [.int .i64 1] (.lst 13 (ints (eul 1))) := FnF_exec 5000 fn108 rfl md108 (by kernel_rfl)
theorem x102_1 : FnF TT 102 [.int .i64 1] (.lst 2 (ints ((eul 1).take 2))) := FnF_exec 5000 fn102 rfl md102 (by kernel_rfl)
theorem x107_1 : FnV TT 107 [.int .i64 1] (.int .i64 (facN 1)) := FnV.mk fn107 rfl md107 (exI_of_exec (n := 1000) (by kernel_rfl)) (fun _ => rfl) rfl
theorem x101_1 : FnV TT 101 [.int .i64 1] (.int .i64 (facN 1)) := FnV.mk fn101 rfl md101 (exI_of_exec (n := 1000) (by kernel_rfl)) (fun _ => rfl) rfl
theorem x108_2 : FnF TT 108 [.int .i64 2] (.lst 13 (ints (eul 2))) := FnF_exec 5000 fn108 rfl md108 (by kernel_rfl)
theorem x102_2 : FnF TT 102 [.int .i64 2] (.lst 3 (ints ((eul 2).take 3))) := FnF_exec 5000 fn102 rfl md102 (by kernel_rfl)
theorem x107_2 : FnV TT 107 [.int .i64 2] (.int .i64 (facN 2)) := FnV.mk fn107 rfl md107 (exI_of_exec (n := 1000) (by kernel_rfl)) (fun _ => rfl) rfl
theorem x101_2 : FnV TT 101 [.int .i64 2] (.int .i64 (facN 2)) := FnV.mk fn101 rfl md101 (exI_of_exec (n := 1000) (by kernel_rfl)) (fun _ => rfl) rfl
theorem x108_3 : FnF TT 108 [.int .i64 3] (.lst 13 (ints (eul 3))) := FnF_exec 5000 fn108 rfl md108 (by kernel_rfl)
theorem x102_3 : FnF TT 102 [.int .i64 3] (.lst 4 (ints ((eul 3).take 4))) := FnF_exec 5000 fn102 rfl md102 (by kernel_rfl)
theorem x107_3 : FnV TT 107 [.int .i64 3] (.int .i64 (facN 3)) := FnV.mk fn107 rfl md107 (exI_of_exec (n := 1000) (by kernel_rfl)) (fun _ => rfl) rfl
theorem x101_3 : FnV TT 101 [.int .i64 3] (.int .i64 (facN 3)) := FnV.mk fn101 rfl md101 (exI_of_exec (n := 1000) (by kernel_rfl)) (fun _ => rfl) rfl
theorem x108_4 : FnF TT 108 [.int .i64 4] (.lst 13 (ints (eul 4))) := FnF_exec 5000 fn108 rfl md108 (by kernel_rfl)
theorem x102_4 : FnF TT 102 [.int .i64 4] (.lst 5 (ints ((eul 4).take 5))) := FnF_exec 5000 fn102 rfl md102 (by kernel_rfl)
theorem x107_4 : FnV TT 107 [.int .i64 4] (.int .i64 (facN 4)) := FnV.mk fn107 rfl md107 (exI_of_exec (n := 1000) (by kernel_rfl)) (fun _ => rfl) rfl
theorem x101_4 : FnV TT 101 [.int .i64 4] (.int .i64 (facN 4)) := FnV.mk fn101 rfl md101 (exI_of_exec (n := 1000) (by kernel_rfl)) (fun _ => rfl) rfl
theorem x108_5 : FnF TT 108 [.int .i64 5] (.lst 13 (ints (eul 5))) := FnF_exec 5000 fn108 rfl md108 (by kernel_rfl)
theorem x102_5 : FnF TT 102 [.int .i64 5] (.lst 6 (ints ((eul 5).take 6))) := FnF_exec 5000 fn102 rfl md102 (by kernel_rfl)
theorem x107_5 : FnV TT 107 [.int .i64 5] (.int .i64 (facN 5)) := FnV.mk fn107 rfl md107 (exI_of_exec (n := 1000) (by kernel_rfl)) (fun _ => rfl) rfl
theorem x101_5 : FnV TT 101 [.int .i64 5] (.int .i64 (facN 5)) := FnV.mk fn101 rfl md101 (exI_of_exec (n := 1000) (by kernel_rfl)) (fun _ => rfl) rfl
theorem x108_6 : FnF TT 108 [.int .i64 6] (.lst 13 (ints (eul 6))) := FnF_exec 5000 fn108 rfl md108 (by kernel_rfl)
theorem x102_6 : FnF TT 102 [.int .i64 6] (.lst 7 (ints ((eul 6).take 7))) := FnF_exec 5000 fn102 rfl md102 (by kernel_rfl)
theorem x107_6 : FnV TT 107 [.int .i64 6] (.int .i64 (facN 6)) := FnV.mk fn107 rfl md107 (exI_of_exec (n := 1000) (by kernel_rfl)) (fun _ => rfl) rfl
theorem x101_6 : FnV TT 101 [.int .i64 6] (.int .i64 (facN 6)) := FnV.mk fn101 rfl md101 (exI_of_exec (n := 1000) (by kernel_rfl)) (fun _ => rfl) rfl
theorem x108_7 : FnF TT 108 [.int .i64 7] (.lst 13 (ints (eul 7))) := FnF_exec 5000 fn108 rfl md108 (by kernel_rfl)
theorem x102_7 : FnF TT 102 [.int .i64 7] (.lst 8 (ints ((eul 7).take 8))) := FnF_exec 5000 fn102 rfl md102 (by kernel_rfl)
theorem x107_7 : FnV TT 107 [.int .i64 7] (.int .i64 (facN 7)) := FnV.mk fn107 rfl md107 (exI_of_exec (n := 1000) (by kernel_rfl)) (fun _ => rfl) rfl
theorem x101_7 : FnV TT 101 [.int .i64 7] (.int .i64 (facN 7)) := FnV.mk fn101 rfl md101 (exI_of_exec (n := 1000) (by kernel_rfl)) (fun _ => rfl) rfl
theorem x108_8 : FnF TT 108 [.int .i64 8] (.lst 13 (ints (eul 8))) := FnF_exec 5000 fn108 rfl md108 (by kernel_rfl)
theorem x102_8 : FnF TT 102 [.int .i64 8] (.lst 9 (ints ((eul 8).take 9))) := FnF_exec 5000 fn102 rfl md102 (by kernel_rfl)
theorem x107_8 : FnV TT 107 [.int .i64 8] (.int .i64 (facN 8)) := FnV.mk fn107 rfl md107 (exI_of_exec (n := 1000) (by kernel_rfl)) (fun _ => rfl) rfl
theorem x101_8 : FnV TT 101 [.int .i64 8] (.int .i64 (facN 8)) := FnV.mk fn101 rfl md101 (exI_of_exec (n := 1000) (by kernel_rfl)) (fun _ => rfl) rfl
theorem r108 : ∀ n : Nat, 1 ≤ n → n ≤ 8 → FnF TT 108 [.int .i64 n] (.lst 13 (ints (eul n))) := n8 x108_1 x108_2 x108_3 x108_4 x108_5 x108_6 x108_7 x108_8
theorem r102 : ∀ n : Nat, 1 ≤ n → n ≤ 8 → FnF TT 102 [.int .i64 n] (.lst (n + 1) (ints ((eul n).take (n + 1)))) := n8 x102_1 x102_2 x102_3 x102_4 x102_5 x102_6 x102_7 x102_8
theorem r107 : ∀ n : Nat, 1 ≤ n → n ≤ 8 → FnV TT 107 [.int .i64 n] (.int .i64 (facN n)) := n8 x107_1 x107_2 x107_3 x107_4 x107_5 x107_6 x107_7 x107_8
theorem r101 : ∀ n : Nat, 1 ≤ n → n ≤ 8 → FnV TT 101 [.int .i64 n] (.int .i64 (facN n)) := n8 x101_1 x101_2 x101_3 x101_4 x101_5 x101_6 x101_7 x101_8
def evenQ (n : Nat) : Rat := mkRat 1 (facN n)
def rdT (n r k : Nat) : Rat := if 0 < at0 (eul n) k then (chance n k r - evenQ n).abs * mkRat (at0 (eul n) k) 1 else 0
def rdQ (n r : Nat) : Rat := sumI (rdT n r) 13 / 2
def spT (n r k : Nat) : Rat := (chance n (k + 1) r - evenQ n).abs * mkRat (at0 (eul n) (k + 1)) 2
/-- What the two ways of reckoning need at all arguments. -/
def chkRD (n r : Nat) : Bool := ((List.range n).all fun k => fits (chance n (k + 1) r - evenQ n) && (fits (spT n r k) && (fits (sumI (spT n r) (k + 1)) && (fits (mkRat (at0 (eul n) (k + 1)) 2) && decide (0 ≤ at0 (eul n) (k + 1) ∧ at0 (eul n) (k + 1) ≤ 100000))))) && (fits (evenQ n) && (decide (sumI (spT n r) n = rdQ n r) && (decide ((eul n).length = 13) && (((List.range 13).all fun k => (decide (0 < at0 (eul n) k) == (decide (1 ≤ k) && decide (k ≤ n))) && decide (at0 (eul n) k ≤ 100000 ∧ 0 ≤ at0 (eul n) k)) && decide (1 ≤ facN n ∧ facN n ≤ 40320)))))

theorem chk_1 : ((List.range 6).all fun r => chkRD 1 r) = true := by decide +kernel
theorem chk_2 : ((List.range 6).all fun r => chkRD 2 r) = true := by decide +kernel
theorem chk_3 : ((List.range 6).all fun r => chkRD 3 r) = true := by decide +kernel
theorem chk_4 : ((List.range 6).all fun r => chkRD 4 r) = true := by decide +kernel
theorem chk_5 : ((List.range 6).all fun r => chkRD 5 r) = true := by decide +kernel
theorem chk_6 : ((List.range 6).all fun r => chkRD 6 r) = true := by decide +kernel
theorem chk_7 : ((List.range 6).all fun r => chkRD 7 r) = true := by decide +kernel
theorem chk_8 : ((List.range 6).all fun r => chkRD 8 r) = true := by decide +kernel
theorem chk_all (n r : Nat) (h1 : 1 ≤ n) (h2 : n ≤ 8) (hr : r ≤ 5) : chkRD n r = true := by
  have := n8 (P := fun n => ((List.range 6).all fun r => chkRD n r) = true) chk_1 chk_2 chk_3 chk_4 chk_5 chk_6 chk_7 chk_8 n h1 h2
  rw [List.all_eq_true] at this
  exact this r (List.mem_range.2 (by omega))
structure RD (n r : Nat) : Prop where
  d : ∀ k, k < n → fits (chance n (k + 1) r - evenQ n) = true
  t : ∀ k, k < n → fits (spT n r k) = true
  s : ∀ k, k < n → fits (sumI (spT n r) (k + 1)) = true
  m : ∀ k, k < n → fits (mkRat (at0 (eul n) (k + 1)) 2) = true
  b : ∀ k, k < n → 0 ≤ at0 (eul n) (k + 1) ∧ at0 (eul n) (k + 1) ≤ 100000
  e : fits (evenQ n) = true
  q : sumI (spT n r) n = rdQ n r
  l : (eul n).length = 13
  p : ∀ k, k < 13 → (0 < at0 (eul n) k ↔ (1 ≤ k ∧ k ≤ n))
  c : ∀ k, k < 13 → at0 (eul n) k ≤ 100000 ∧ 0 ≤ at0 (eul n) k
  f : 1 ≤ facN n ∧ facN n ≤ 40320
theorem rd (n r : Nat) (h1 : 1 ≤ n) (h2 : n ≤ 8) (hr : r ≤ 5) : RD n r := by
  have h := chk_all n r h1 h2 hr
  simp only [chkRD, Bool.and_eq_true, List.all_eq_true, List.mem_range, decide_eq_true_eq, beq_iff_eq] at h
  obtain ⟨a, b, c, d, e, f⟩ := h
  refine ⟨fun k hk => (a k hk).1, fun k hk => (a k hk).2.1, fun k hk => (a k hk).2.2.1, fun k hk => (a k hk).2.2.2.1, fun k hk => (a k hk).2.2.2.2, b, c, d, fun k hk => ?_, fun k hk => (e k hk).2, f⟩
  have := (e k hk).1
  rw [← Bool.decide_and, decide_eq_decide] at this
  exact this
theorem sumI_bd {f : Nat → Rat} {k : Nat} : ∀ n, (∀ i, i < n → Bd k (f i)) → Bd (2 + n * (k + 1)) (sumI f n)
  | 0, _ => (show Bd 2 (0 : Rat) from ⟨by decide +kernel, by decide +kernel⟩).mono (by omega)
  | n + 1, h => by
    rw [sumI]
    exact ((sumI_bd n fun i hi => h i (by omega)).add (h n (by omega))).mono (by rw [Nat.add_mul]; omega)
def valRD (n r : Int) : AV := if (inR n 1 8 && inR r 0 5) = true then frA (rdQ n.toNat r.toNat) else frF
theorem valRD_is (n r : Int) : ∃ a b c, valRD n r = .tup [.agg [.int .i64 a, .int .i64 b], .bool c] := by
  unfold valRD
  split
  · exact frA_is _
  · exact ⟨_, _, _, rfl⟩

set_option maxHeartbeats 4000000 in
theorem k37f1 (n r : Int) (c1 : ∀ σ, callI TT 92 [.int .i64 n, .int .i64 1, .int .i64 8] σ = some (.bool false, σ)) :
    ∃ σ', exI TT (FI.of Try.f37 (TT.an 37)) [.code (Try.f37.body.getD .skip)] (paramsE 0 [.int .i64 n, .int .i64 r]) ⟨[], 0⟩ = some (.tup [.agg [.int .i64 0, .int .i64 0], .bool false], σ') := by
  refine ex1 ?_
  rw [fi37]
  simp only [Try.f37, Option.getD]
  simp (maxSteps := 1000000) (disch := omega) [cellsAt, getCells, takeN, dropN, fieldAddrA, allOne, AV.one, n_push, storeCellsA, putN, overN, St.push, St.get, St.set, hget, hset, blt_dec, buildA, sizesOf, fillA, putCells, List.take_succ_cons, List.take_zero, List.drop_succ_cons, List.drop_zero, List.nil_append, List.cons_append, List.length_cons, List.length_nil, eqvs_dgs, convA, c1]
set_option maxHeartbeats 4000000 in
theorem k37f2 (n r : Int) (c1 : ∀ σ, callI TT 92 [.int .i64 n, .int .i64 1, .int .i64 8] σ = some (.bool true, σ)) (c2 : ∀ σ, callI TT 92 [.int .i64 r, .int .i64 0, .int .i64 5] σ = some (.bool false, σ)) :
    ∃ σ', exI TT (FI.of Try.f37 (TT.an 37)) [.code (Try.f37.body.getD .skip)] (paramsE 0 [.int .i64 n, .int .i64 r]) ⟨[], 0⟩ = some (.tup [.agg [.int .i64 0, .int .i64 0], .bool false], σ') := by
  refine ex1 ?_
  rw [fi37]
  simp only [Try.f37, Option.getD]
  simp (maxSteps := 1000000) (disch := omega) [cellsAt, getCells, takeN, dropN, fieldAddrA, allOne, AV.one, n_push, storeCellsA, putN, overN, St.push, St.get, St.set, hget, hset, blt_dec, buildA, sizesOf, fillA, putCells, List.take_succ_cons, List.take_zero, List.drop_succ_cons, List.drop_zero, List.nil_append, List.cons_append, List.length_cons, List.length_nil, eqvs_dgs, convA, c1, c2]
theorem k37f (n r : Int) (b1 b2 : Bool) (c1 : ∀ σ, callI TT 92 [.int .i64 n, .int .i64 1, .int .i64 8] σ = some (.bool b1, σ)) (c2 : ∀ σ, callI TT 92 [.int .i64 r, .int .i64 0, .int .i64 5] σ = some (.bool b2, σ)) (h0 : (b1 && b2) = false) : ∃ σ', exI TT (FI.of Try.f37 (TT.an 37)) [.code (Try.f37.body.getD .skip)] (paramsE 0 [.int .i64 n, .int .i64 r]) ⟨[], 0⟩ = some (.tup [.agg [.int .i64 0, .int .i64 0], .bool false], σ') := by
  cases b1 with
  | false => exact k37f1 n r c1
  | true => cases b2 with
    | false => exact k37f2 n r c1 c2
    | true => cases h0
set_option maxHeartbeats 4000000 in
theorem k38f1 (n r : Int) (c1 : ∀ σ, callI TT 63 [.int .i64 n, .int .i64 1, .int .i64 8] σ = some (.bool false, σ)) :
    ∃ σ', exI TT (FI.of Try.f38 (TT.an 38)) [.code (Try.f38.body.getD .skip)] (paramsE 0 [.int .i64 n, .int .i64 r]) ⟨[], 0⟩ = some (.tup [.agg [.int .i64 0, .int .i64 0], .bool false], σ') := by
  refine ex1 ?_
  rw [fi38]
  simp only [Try.f38, Option.getD]
  simp (maxSteps := 1000000) (disch := omega) [cellsAt, getCells, takeN, dropN, fieldAddrA, allOne, AV.one, n_push, storeCellsA, putN, overN, St.push, St.get, St.set, hget, hset, blt_dec, buildA, sizesOf, fillA, putCells, List.take_succ_cons, List.take_zero, List.drop_succ_cons, List.drop_zero, List.nil_append, List.cons_append, List.length_cons, List.length_nil, eqvs_dgs, convA, c1]
set_option maxHeartbeats 4000000 in
theorem k38f2 (n r : Int) (c1 : ∀ σ, callI TT 63 [.int .i64 n, .int .i64 1, .int .i64 8] σ = some (.bool true, σ)) (c2 : ∀ σ, callI TT 63 [.int .i64 r, .int .i64 0, .int .i64 5] σ = some (.bool false, σ)) :
    ∃ σ', exI TT (FI.of Try.f38 (TT.an 38)) [.code (Try.f38.body.getD .skip)] (paramsE 0 [.int .i64 n, .int .i64 r]) ⟨[], 0⟩ = some (.tup [.agg [.int .i64 0, .int .i64 0], .bool false], σ') := by
  refine ex1 ?_
  rw [fi38]
  simp only [Try.f38, Option.getD]
  simp (maxSteps := 1000000) (disch := omega) [cellsAt, getCells, takeN, dropN, fieldAddrA, allOne, AV.one, n_push, storeCellsA, putN, overN, St.push, St.get, St.set, hget, hset, blt_dec, buildA, sizesOf, fillA, putCells, List.take_succ_cons, List.take_zero, List.drop_succ_cons, List.drop_zero, List.nil_append, List.cons_append, List.length_cons, List.length_nil, eqvs_dgs, convA, c1, c2]
theorem k38f (n r : Int) (b1 b2 : Bool) (c1 : ∀ σ, callI TT 63 [.int .i64 n, .int .i64 1, .int .i64 8] σ = some (.bool b1, σ)) (c2 : ∀ σ, callI TT 63 [.int .i64 r, .int .i64 0, .int .i64 5] σ = some (.bool b2, σ)) (h0 : (b1 && b2) = false) : ∃ σ', exI TT (FI.of Try.f38 (TT.an 38)) [.code (Try.f38.body.getD .skip)] (paramsE 0 [.int .i64 n, .int .i64 r]) ⟨[], 0⟩ = some (.tup [.agg [.int .i64 0, .int .i64 0], .bool false], σ') := by
  cases b1 with
  | false => exact k38f1 n r c1
  | true => cases b2 with
    | false => exact k38f2 n r c1 c2
    | true => cases h0
noncomputable def b38 : Code := Try.f38.body.getD .skip
noncomputable def B38_0 : Code := (bodyC (bodyC (sndC (fstC (sndC (sndC (sndC b38)))))))
noncomputable def K38_0 : List It := .lp B38_0 :: .blk 0 :: .code (sndC (sndC (sndC (sndC b38)))) :: []
theorem xl38_0 {fi : FI} {env : Env} {σ : St} : exI TT fi K38_0 env σ = exI TT fi (.code B38_0 :: K38_0) env σ := by unfold K38_0; exact xI_lp
noncomputable def R38_0_0 : List It := .code (sndC (sndC (sndC (sndC b38)))) :: []
theorem eK38_0_0 : exitA 0 K38_0 = some R38_0_0 := rfl
set_option maxHeartbeats 4000000 in
theorem s38z (n r : Int) (m i : Nat) (cells : List AV) (y : Int) (σ : St) (hi : i < m) (l1 : cellsAt σ (.lp cells i) 1 = some [.int .i64 y]) (hy : y ≤ 0) (hw : wrapA .i64 ((i : Int) + 1) = (i : Int) + 1) :
    exI TT (FI.of Try.f38 (TT.an 38)) K38_0 [(0, .int .i64 n), (1, .int .i64 r), (4, .ptr 0 0), (6, .ptr 1 0), (7, .ptr 2 0), (24, .lst m cells), (25, .int .i64 m), (26, .int .i64 i)] σ = exI TT (FI.of Try.f38 (TT.an 38)) K38_0 [(0, .int .i64 n), (1, .int .i64 r), (4, .ptr 0 0), (6, .ptr 1 0), (7, .ptr 2 0), (24, .lst m cells), (25, .int .i64 m), (26, .int .i64 ((i : Int) + 1))] σ := by
  rw [fi38]
  conv => lhs; rw [xl38_0]
  simp only [B38_0, b38, Try.f38, Option.getD, fstC, sndC, bodyC, thnC, elsC]
  simp (maxSteps := 1000000) (disch := omega) [eK38_0_0, getCells, takeN, dropN, fieldAddrA, allOne, AV.one, n_push, putN, overN, blt_dec, buildA, sizesOf, fillA, putCells, List.take_succ_cons, List.take_zero, List.drop_succ_cons, List.drop_zero, List.nil_append, List.cons_append, List.length_cons, List.length_nil, eqvs_dgs, convA, hi, l1, hy, hw]
set_option maxHeartbeats 4000000 in
theorem s38p (n r : Int) (m i : Nat) (cells s c e d a w t u : List AV) (y : Int) (σ σ1 : St) (hi : i < m) (l1 : cellsAt σ (.lp cells i) 1 = some [.int .i64 y]) (hy : 0 < y) (l6 : cellsAt σ (.ptr 1 0) 3 = some s) (l7 : cellsAt σ (.ptr 2 0) 3 = some e) (hes : eqvs s s = true) (hee : eqvs e e = true) (hec : eqvs c c = true) (hea : eqvs a a = true) (hei : wrapA .i64 (i : Int) = (i : Int)) (c1 : ∀ σ, callI TT 97 [.int .i64 n, .int .i64 i, .int .i64 r] σ = some (.agg c, σ)) (c2 : ∀ σ, callI TT 109 [.agg c, .agg e] σ = some (.agg d, σ)) (c3 : ∀ σ, callI TT 110 [.agg d] σ = some (.agg a, σ)) (c4 : ∀ σ, callI TT 84 [.int .i64 y] σ = some (.agg w, σ)) (c5 : ∀ σ, callI TT 86 [.agg a, .agg w] σ = some (.agg t, σ)) (c6 : ∀ σ, callI TT 85 [.agg s, .agg t] σ = some (.agg u, σ)) (hu : u.length = 3) (s1 : storeCellsA σ 1 0 u = some σ1) (hw : wrapA .i64 ((i : Int) + 1) = (i : Int) + 1) :
    exI TT (FI.of Try.f38 (TT.an 38)) K38_0 [(0, .int .i64 n), (1, .int .i64 r), (4, .ptr 0 0), (6, .ptr 1 0), (7, .ptr 2 0), (24, .lst m cells), (25, .int .i64 m), (26, .int .i64 i)] σ = exI TT (FI.of Try.f38 (TT.an 38)) K38_0 [(0, .int .i64 n), (1, .int .i64 r), (4, .ptr 0 0), (6, .ptr 1 0), (7, .ptr 2 0), (24, .lst m cells), (25, .int .i64 m), (26, .int .i64 ((i : Int) + 1))] σ1 := by
  rw [fi38]
  conv => lhs; rw [xl38_0]
  simp only [B38_0, b38, Try.f38, Option.getD, fstC, sndC, bodyC, thnC, elsC]
  simp (maxSteps := 1000000) (disch := omega) [eK38_0_0, getCells, takeN, dropN, fieldAddrA, allOne, AV.one, n_push, putN, overN, blt_dec, buildA, sizesOf, fillA, putCells, List.take_succ_cons, List.take_zero, List.drop_succ_cons, List.drop_zero, List.nil_append, List.cons_append, List.length_cons, List.length_nil, eqvs_dgs, convA, hi, l1, hy, l6, l7, hes, hee, hec, hea, hei, c1, c2, c3, c4, c5, c6, hu, s1, hw]
set_option maxHeartbeats 4000000 in
theorem e38 (n r : Int) (m : Nat) (cells s o t : List AV) (a_ b_ : Int) (c_ : Bool) (σ σ1 : St) (l6 : cellsAt σ (.ptr 1 0) 3 = some s) (hes : eqvs s s = true) (c1 : ∀ σ, callI TT 84 [.int .i64 2] σ = some (.agg o, σ)) (c2 : ∀ σ, callI TT 111 [.agg s, .agg o] σ = some (.agg t, σ)) (c3 : ∀ σ, callI TT 80 [.agg t] σ = some (.tup [.agg [.int .i64 a_, .int .i64 b_], .bool c_], σ)) (s1 : storeCellsA σ 0 0 [.int .i64 a_, .int .i64 b_] = some σ1) (l4 : cellsAt σ1 (.ptr 0 0) 2 = some [.int .i64 a_, .int .i64 b_]) :
    exI TT (FI.of Try.f38 (TT.an 38)) K38_0 [(0, .int .i64 n), (1, .int .i64 r), (4, .ptr 0 0), (6, .ptr 1 0), (7, .ptr 2 0), (24, .lst m cells), (25, .int .i64 m), (26, .int .i64 m)] σ = some (.tup [.agg [.int .i64 a_, .int .i64 b_], .bool c_], σ1) := by
  rw [fi38]
  conv => lhs; rw [xl38_0]
  simp only [B38_0, b38, Try.f38, Option.getD, fstC, sndC, bodyC, thnC, elsC]
  simp (maxSteps := 1000000) (disch := omega) [eK38_0_0, getCells, takeN, dropN, fieldAddrA, allOne, AV.one, n_push, putN, overN, blt_dec, buildA, sizesOf, fillA, putCells, List.take_succ_cons, List.take_zero, List.drop_succ_cons, List.drop_zero, List.nil_append, List.cons_append, List.length_cons, List.length_nil, eqvs_dgs, convA, l6, hes, c1, c2, c3, s1, l4]
  simp only [R38_0_0, b38, Try.f38, Option.getD, fstC, sndC, bodyC, thnC, elsC]
  simp (maxSteps := 1000000) (disch := omega) [eK38_0_0, getCells, takeN, dropN, fieldAddrA, allOne, AV.one, n_push, putN, overN, blt_dec, buildA, sizesOf, fillA, putCells, List.take_succ_cons, List.take_zero, List.drop_succ_cons, List.drop_zero, List.nil_append, List.cons_append, List.length_cons, List.length_nil, eqvs_dgs, convA, l6, hes, c1, c2, c3, s1, l4]
set_option maxHeartbeats 4000000 in
theorem b38e (n r : Int) (m : Nat) (cells o e : List AV) (fc : Int) (σ0 σ1 σ2 σ3 σ4 : St) (h1 : (⟨[], 0⟩ : St).push ⟨[.int .i64 0, .int .i64 0], 2, false⟩ = σ0) (hn0 : σ0.n = 1) (c1 : ∀ σ, callI TT 63 [.int .i64 n, .int .i64 1, .int .i64 8] σ = some (.bool true, σ)) (c2 : ∀ σ, callI TT 63 [.int .i64 r, .int .i64 0, .int .i64 5] σ = some (.bool true, σ)) (c3 : ∀ σ, callI TT 84 [.int .i64 0] σ = some (.agg o, σ)) (c4 : ∀ σ, callI TT 107 [.int .i64 n] σ = some (.int .i64 fc, σ)) (c5 : ∀ σ, callI TT 106 [.int .i64 1, .int .i64 fc] σ = some (.agg e, σ)) (h2 : σ0.push ⟨[.bool false, .nilS, .nilS], 3, false⟩ = σ1) (hn1 : σ1.n = 2) (h3 : σ1.push ⟨[.bool false, .nilS, .nilS], 3, false⟩ = σ2) (ho : o.length = 3) (he : e.length = 3) (s1 : storeCellsA σ2 1 0 o = some σ3) (s2 : storeCellsA σ3 2 0 e = some σ4) (c6 : ∀ σ, callI TT 108 [.int .i64 n] σ = some (.lst m cells, σ)) :
    exI TT (FI.of Try.f38 (TT.an 38)) [.code b38] (paramsE 0 [.int .i64 n, .int .i64 r]) ⟨[], 0⟩ = exI TT (FI.of Try.f38 (TT.an 38)) K38_0 [(0, .int .i64 n), (1, .int .i64 r), (4, .ptr 0 0), (6, .ptr 1 0), (7, .ptr 2 0), (24, .lst m cells), (25, .int .i64 m), (26, .int .i64 0)] σ4 := by
  rw [fi38]
  simp only [b38, Try.f38, Option.getD, fstC, sndC, bodyC, thnC, elsC]
  simp (maxSteps := 1000000) (disch := omega) [eK38_0_0, getCells, takeN, dropN, fieldAddrA, allOne, AV.one, n_push, putN, overN, blt_dec, buildA, sizesOf, fillA, putCells, List.take_succ_cons, List.take_zero, List.drop_succ_cons, List.drop_zero, List.nil_append, List.cons_append, List.length_cons, List.length_nil, eqvs_dgs, convA, h1, hn0, c1, c2, c3, c4, c5, h2, hn1, h3, ho, he, s1, s2, c6]
  rfl
theorem evenQ_bd (n : Nat) (h : 1 ≤ facN n ∧ facN n ≤ 40320) : Bd 60 (evenQ n) := by
  have := low_bd (k := 60) (b := false) (n := 1) (d := facN n) (by omega) (by decide) (Nat.lt_of_le_of_lt h.2 (by decide))
  exact this
theorem rdT_bd {n r k : Nat} (h : RD n r) (hn : n ≤ 8) (hr : r ≤ 5) (hk : k < 13) : Bd 200 (rdT n r k) := by
  unfold rdT
  split
  · rename_i hy
    obtain ⟨k1, k2⟩ := (h.p k hk).1 hy
    obtain ⟨c1, c2⟩ := h.c k hk
    obtain ⟨z, hz⟩ : ∃ z : Nat, at0 (eul n) k = z := ⟨(at0 (eul n) k).toNat, by omega⟩
    rw [hz] at c1 ⊢
    have b1 := ((chance_bd n k r (by omega) k2 hr).sub (evenQ_bd n h.f)).abs
    have b2 : Bd 60 (mkRat (z : Int) 1) := low_bd (b := false) (n := z) (d := 1) (by decide) (Nat.lt_of_le_of_lt (show z ≤ 100000 by omega) (by decide)) (by decide)
    exact (b1.mul b2).mono (by decide)
  · exact (show Bd 2 (0 : Rat) from ⟨by decide +kernel, by decide +kernel⟩).mono (by decide)
theorem l38 (n r : Nat) (h : RD n r) (hn : n ≤ 8) (hr : r ≤ 5) : ∀ (m i : Nat) (σ : St), i + m = 13 → Bx σ 1 (RC (sumI (rdT n r) i)) → Bx σ 2 (RC (evenQ n)) → (∃ z, Bx σ 0 z ∧ z.length = 2) →
    ∃ σ', exI TT (FI.of Try.f38 (TT.an 38)) K38_0 [(0, .int .i64 n), (1, .int .i64 r), (4, .ptr 0 0), (6, .ptr 1 0), (7, .ptr 2 0), (24, .lst 13 (ints (eul n))), (25, .int .i64 13), (26, .int .i64 i)] σ = some (frA (rdQ n r), σ') := by
  intro m
  induction m with
  | zero =>
    intro i σ hi hb he hz
    obtain rfl : i = 13 := by omega
    have bs := sumI_bd (f := rdT n r) (k := 200) 13 (fun i hi => rdT_bd h hn hr hi)
    have b2 : Bd 60 (mkRat 2 1) := ⟨by decide, by decide⟩
    have cv := r111 bs (b2.mono (by decide)) (by decide) (by decide)
    have b3 : Bd 60 ((2 : Rat)⁻¹) := ⟨by decide +kernel, by decide +kernel⟩
    have bq : Bd 4000 (rdQ n r) := by
      rw [rdQ, Rat.div_def]; exact (bs.mul b3).mono (by decide)
    have cf := r80 bq (by decide)
    obtain ⟨z, hz, hzl⟩ := hz
    rw [show sumI (rdT n r) 13 / mkRat 2 1 = rdQ n r from rfl] at cv
    generalize rdQ n r = d at *
    obtain ⟨a, b, c, hR⟩ := frA_is d
    rw [hR] at cf ⊢
    obtain ⟨σ1, a1, a2, a3⟩ := hz.st (ws := [.int .i64 a, .int .i64 b]) (by rw [hzl]; rfl) rfl
    exact ⟨σ1, e38 n r 13 _ _ _ _ a b c σ σ1 (hb.rd rfl) (RC_eqv _) (fun σ => (r84 (n := 2) (by decide) (by decide)).pure σ rfl rfl) (fun σ => cv.pure σ rfl rfl) (fun σ => cf σ _ rfl) a1 (a2.rd rfl)⟩
  | succ m ih =>
    intro i σ hi hb he hz
    have hi13 : i < 13 := by omega
    have hi1 : ((i + 1 : Nat) : Int) = (i : Int) + 1 := by omega
    have hw : wrapA .i64 ((i : Int) + 1) = (i : Int) + 1 := wrapA_id (by omega) (by omega)
    have l1 := lp_read (σ := σ) (l := eul n) (i := i) (by rw [h.l]; exact hi13)
    obtain ⟨c1, c2⟩ := h.c i hi13
    by_cases hy : 0 < at0 (eul n) i
    · obtain ⟨k1, k2⟩ := (h.p i hi13).1 hy
      have t1 : rdT n r i = (chance n i r - evenQ n).abs * mkRat (at0 (eul n) i) 1 := if_pos hy
      have bc := chance_bd n i r (by omega) k2 hr
      have be := evenQ_bd n h.f
      have bt := rdT_bd h hn hr hi13
      have bs := sumI_bd (f := rdT n r) (k := 200) i (fun j hj => rdT_bd h hn hr (by omega))
      obtain ⟨z0, hz0⟩ : ∃ z : Nat, at0 (eul n) i = z := ⟨(at0 (eul n) i).toNat, by omega⟩
      have b2 : Bd 60 (mkRat (at0 (eul n) i) 1) := by
        rw [hz0] at c1 ⊢
        exact low_bd (b := false) (n := z0) (d := 1) (by decide) (Nat.lt_of_le_of_lt (show z0 ≤ 100000 by omega) (by decide)) (by decide)
      have cc := r97 n i r (by omega) k2 hr
      have cm := r109 (bc.mono (show 61 ≤ 100 by decide)) (be.mono (show 60 ≤ 100 by decide)) (by decide)
      have ca := r110 (chance n i r - evenQ n)
      have cw := r84 (n := at0 (eul n) i) (by omega) (by omega)
      have ct := r86 ((bc.sub be).abs.mono (show _ ≤ 200 by decide)) (b2.mono (show 60 ≤ 200 by decide)) (by decide)
      rw [← t1] at ct
      have cp := r85 (bs.mono (show _ ≤ 4000 by omega)) (bt.mono (show 200 ≤ 4000 by decide)) (by decide)
      obtain ⟨σ1, a1, a2, a3⟩ := hb.st (ws := RC (sumI (rdT n r) (i + 1))) rfl (RC_one _)
      obtain ⟨z, hz, hzl⟩ := hz
      obtain ⟨σ', k3⟩ := ih (i + 1) σ1 (by omega) a2 (he.but (by decide) a3) ⟨z, hz.but (by decide) a3, hzl⟩
      rw [hi1] at k3
      refine ⟨σ', ?_⟩
      rw [← k3]
      exact s38p n r 13 i _ _ (RC (chance n i r)) _ _ (RC (chance n i r - evenQ n).abs) _ _ _ _ σ σ1 hi13 l1 hy (hb.rd rfl) (he.rd rfl) (RC_eqv _) (RC_eqv _) (RC_eqv _) (RC_eqv _) (wrapA_id (by omega) (by omega)) (fun σ => cc.pure σ rfl rfl) (fun σ => cm.pure σ rfl rfl) (fun σ => ca.pure σ rfl rfl) (fun σ => cw.pure σ rfl rfl) (fun σ => ct.pure σ rfl rfl) (fun σ => cp.pure σ rfl rfl) rfl a1 hw
    · have t0 : rdT n r i = 0 := if_neg hy
      have ts : sumI (rdT n r) (i + 1) = sumI (rdT n r) i := by rw [sumI, t0, Rat.add_zero]
      obtain ⟨σ', k3⟩ := ih (i + 1) σ (by omega) (by rw [ts]; exact hb) he hz
      rw [hi1] at k3
      refine ⟨σ', ?_⟩
      rw [← k3]
      exact s38z n r 13 i _ _ σ hi13 l1 (by omega) hw
theorem r38 (n r : Int) : FnV TT 38 [.int .i64 n, .int .i64 r] (valRD n r) := by
  have c1 := fun σ : St => c63 n 1 8 σ
  have c2 := fun σ : St => c63 r 0 5 σ
  unfold valRD
  cases hh : (inR n 1 8 && inR r 0 5) with
  | true =>
    simp only [Bool.and_eq_true] at hh
    obtain ⟨h1, h2⟩ := hh
    rw [h1] at c1
    rw [h2] at c2
    have e1 := inR_iff.1 h1
    have e2 := inR_iff.1 h2
    obtain ⟨n, rfl⟩ : ∃ k : Nat, n = k := ⟨n.toNat, by omega⟩
    obtain ⟨r, rfl⟩ : ∃ k : Nat, r = k := ⟨r.toNat, by omega⟩
    have h := rd n r (by omega) (by omega) (by omega)
    rw [if_pos rfl, Int.toNat_natCast, Int.toNat_natCast]
    have hx0 : Bx ((⟨[], 0⟩ : St).push ⟨[.int .i64 0, .int .i64 0], 2, false⟩) 0 [.int .i64 0, .int .i64 0] := Bx.push
    have hx1 : Bx (((⟨[], 0⟩ : St).push ⟨[.int .i64 0, .int .i64 0], 2, false⟩).push ⟨[.bool false, .nilS, .nilS], 3, false⟩) 1 [.bool false, .nilS, .nilS] := Bx.push
    have hx2 : Bx ((((⟨[], 0⟩ : St).push ⟨[.int .i64 0, .int .i64 0], 2, false⟩).push ⟨[.bool false, .nilS, .nilS], 3, false⟩).push ⟨[.bool false, .nilS, .nilS], 3, false⟩) 2 [.bool false, .nilS, .nilS] := Bx.push
    obtain ⟨σ3, a1, a2, a3⟩ := (hx1.old (Old.push (x := ⟨[.bool false, .nilS, .nilS], 3, false⟩))).st (ws := RC (mkRat 0 1)) rfl (RC_one _)
    obtain ⟨σ4, b1, b2, b3⟩ := (hx2.but (by decide) a3).st (ws := RC (evenQ n)) rfl (RC_one _)
    obtain ⟨σ', k1⟩ := l38 n r h (by omega) (by omega) 13 0 σ4 rfl (a2.but (by decide) b3) b2 ⟨_, (((hx0.old Old.push).old Old.push).but (by decide) a3).but (by decide) b3, rfl⟩
    have hf := h.f
    have cq := r106 (n := 1) (d := facN n) (by decide) (by decide) (by omega) (by omega)
    exact FnV.mk (c := b38) fn38 rfl md38 ⟨σ', (b38e n r 13 (ints (eul n)) _ _ _ _ _ _ σ3 σ4 rfl rfl c1 c2 (fun σ => (r84 (n := 0) (by decide) (by decide)).pure σ rfl rfl) (fun σ => r107 n (by omega) (by omega) σ _ rfl) (fun σ => cq.pure σ rfl rfl) rfl rfl rfl rfl rfl a1 b1 (fun σ => (r108 n (by omega) (by omega)).pure σ rfl rfl)).trans k1⟩ (frA_frz _) (frA_scal _)
  | false => exact FnV.mk fn38 rfl md38 (k38f _ _ _ _ c1 c2 hh) (fun _ => rfl) rfl

noncomputable def b37 : Code := Try.f37.body.getD .skip
noncomputable def B37_0 : Code := (bodyC (bodyC (sndC (fstC (sndC (sndC (sndC (sndC (sndC b37)))))))))
noncomputable def K37_0 : List It := .lp B37_0 :: .blk 0 :: .code (sndC (sndC (sndC (sndC (sndC (sndC b37)))))) :: []
theorem xl37_0 {fi : FI} {env : Env} {σ : St} : exI TT fi K37_0 env σ = exI TT fi (.code B37_0 :: K37_0) env σ := by unfold K37_0; exact xI_lp
noncomputable def R37_0_0 : List It := .code (sndC (sndC (sndC (sndC (sndC (sndC b37)))))) :: []
theorem eK37_0_0 : exitA 0 K37_0 = some R37_0_0 := rfl
set_option maxHeartbeats 4000000 in
theorem s37n (n r y : Int) (m i : Nat) (cells : List AV) (x1 x2 e1 e2 f1 f2 d1 d2 g1 g2 h1 h2 p1 p2 v1 v2 t1 t2 : Int) (σ σ2 σ3 σ4 σ5 σ6 : St) (hi : i < m) (c1 : ∀ σ, callI TT 95 [.int .i64 n, .int .i64 i, .int .i64 r] σ = some (.agg [.int .i64 x1, .int .i64 x2], σ)) (l6 : cellsAt σ (.ptr 1 0) 2 = some [.int .i64 e1, .int .i64 e2]) (c2 : ∀ σ, callI TT 104 [.agg [.int .i64 e1, .int .i64 e2]] σ = some (.agg [.int .i64 f1, .int .i64 f2], σ)) (c3 : ∀ σ, callI TT 103 [.agg [.int .i64 x1, .int .i64 x2], .agg [.int .i64 f1, .int .i64 f2]] σ = some (.tup [.agg [.int .i64 d1, .int .i64 d2], .bool true], σ)) (s1 : storeCellsA (σ.push ⟨[.int .i64 0, .int .i64 0], 2, false⟩) σ.n 0 [.int .i64 d1, .int .i64 d2] = some σ2) (l10 : cellsAt σ2 (.ptr σ.n 0) 1 = some [.int .i64 d1]) (hd : d1 < 0) (l10b : cellsAt σ2 (.ptr σ.n 0) 2 = some [.int .i64 d1, .int .i64 d2]) (c4 : ∀ σ, callI TT 104 [.agg [.int .i64 d1, .int .i64 d2]] σ = some (.agg [.int .i64 g1, .int .i64 g2], σ)) (s2 : storeCellsA σ2 σ.n 0 [.int .i64 g1, .int .i64 g2] = some σ3) (l10c : cellsAt σ3 (.ptr σ.n 0) 2 = some [.int .i64 g1, .int .i64 g2]) (l7 : cellsAt σ3 (.lp cells i) 1 = some [.int .i64 y]) (c5 : ∀ σ, callI TT 100 [.int .i64 y, .int .i64 2] σ = some (.agg [.int .i64 h1, .int .i64 h2], σ)) (c6 : ∀ σ, callI TT 105 [.agg [.int .i64 g1, .int .i64 g2], .agg [.int .i64 h1, .int .i64 h2]] σ = some (.tup [.agg [.int .i64 p1, .int .i64 p2], .bool true], σ)) (s3 : storeCellsA (σ3.push ⟨[.int .i64 0, .int .i64 0], 2, false⟩) σ3.n 0 [.int .i64 p1, .int .i64 p2] = some σ4) (l8 : cellsAt σ4 (.ptr 2 0) 2 = some [.int .i64 v1, .int .i64 v2]) (l12 : cellsAt σ4 (.ptr σ3.n 0) 2 = some [.int .i64 p1, .int .i64 p2]) (c7 : ∀ σ, callI TT 103 [.agg [.int .i64 v1, .int .i64 v2], .agg [.int .i64 p1, .int .i64 p2]] σ = some (.tup [.agg [.int .i64 t1, .int .i64 t2], .bool true], σ)) (s4 : storeCellsA (σ4.push ⟨[.int .i64 0, .int .i64 0], 2, false⟩) σ4.n 0 [.int .i64 t1, .int .i64 t2] = some σ5) (l14 : cellsAt σ5 (.ptr σ4.n 0) 2 = some [.int .i64 t1, .int .i64 t2]) (s5 : storeCellsA σ5 2 0 [.int .i64 t1, .int .i64 t2] = some σ6) (hw : wrapA .i64 ((i : Int) + 1) = (i : Int) + 1) :
    exI TT (FI.of Try.f37 (TT.an 37)) K37_0 [(0, .int .i64 n), (1, .int .i64 r), (4, .ptr 0 0), (6, .ptr 1 0), (7, .lst m cells), (8, .ptr 2 0), (9, .int .i64 i)] σ = exI TT (FI.of Try.f37 (TT.an 37)) K37_0 [(0, .int .i64 n), (1, .int .i64 r), (4, .ptr 0 0), (6, .ptr 1 0), (7, .lst m cells), (8, .ptr 2 0), (9, .int .i64 ((i : Int) + 1))] σ6 := by
  rw [fi37]
  conv => lhs; rw [xl37_0]
  simp only [B37_0, b37, Try.f37, Option.getD, fstC, sndC, bodyC, thnC, elsC]
  simp (maxSteps := 1000000) (disch := omega) [eK37_0_0, getCells, takeN, dropN, fieldAddrA, allOne, AV.one, n_push, putN, overN, blt_dec, buildA, sizesOf, fillA, putCells, List.take_succ_cons, List.take_zero, List.drop_succ_cons, List.drop_zero, List.nil_append, List.cons_append, List.length_cons, List.length_nil, eqvs_dgs, convA, hi, c1, l6, c2, c3, s1, l10, hd, l10b, c4, s2, l10c, l7, c5, c6, s3, l8, l12, c7, s4, l14, s5, hw]
set_option maxHeartbeats 4000000 in
theorem s37p (n r y : Int) (m i : Nat) (cells : List AV) (x1 x2 e1 e2 f1 f2 d1 d2 h1 h2 p1 p2 v1 v2 t1 t2 : Int) (σ σ2 σ4 σ5 σ6 : St) (hi : i < m) (c1 : ∀ σ, callI TT 95 [.int .i64 n, .int .i64 i, .int .i64 r] σ = some (.agg [.int .i64 x1, .int .i64 x2], σ)) (l6 : cellsAt σ (.ptr 1 0) 2 = some [.int .i64 e1, .int .i64 e2]) (c2 : ∀ σ, callI TT 104 [.agg [.int .i64 e1, .int .i64 e2]] σ = some (.agg [.int .i64 f1, .int .i64 f2], σ)) (c3 : ∀ σ, callI TT 103 [.agg [.int .i64 x1, .int .i64 x2], .agg [.int .i64 f1, .int .i64 f2]] σ = some (.tup [.agg [.int .i64 d1, .int .i64 d2], .bool true], σ)) (s1 : storeCellsA (σ.push ⟨[.int .i64 0, .int .i64 0], 2, false⟩) σ.n 0 [.int .i64 d1, .int .i64 d2] = some σ2) (l10 : cellsAt σ2 (.ptr σ.n 0) 1 = some [.int .i64 d1]) (hd : 0 ≤ d1) (l10c : cellsAt σ2 (.ptr σ.n 0) 2 = some [.int .i64 d1, .int .i64 d2]) (l7 : cellsAt σ2 (.lp cells i) 1 = some [.int .i64 y]) (c5 : ∀ σ, callI TT 100 [.int .i64 y, .int .i64 2] σ = some (.agg [.int .i64 h1, .int .i64 h2], σ)) (c6 : ∀ σ, callI TT 105 [.agg [.int .i64 d1, .int .i64 d2], .agg [.int .i64 h1, .int .i64 h2]] σ = some (.tup [.agg [.int .i64 p1, .int .i64 p2], .bool true], σ)) (s3 : storeCellsA (σ2.push ⟨[.int .i64 0, .int .i64 0], 2, false⟩) σ2.n 0 [.int .i64 p1, .int .i64 p2] = some σ4) (l8 : cellsAt σ4 (.ptr 2 0) 2 = some [.int .i64 v1, .int .i64 v2]) (l12 : cellsAt σ4 (.ptr σ2.n 0) 2 = some [.int .i64 p1, .int .i64 p2]) (c7 : ∀ σ, callI TT 103 [.agg [.int .i64 v1, .int .i64 v2], .agg [.int .i64 p1, .int .i64 p2]] σ = some (.tup [.agg [.int .i64 t1, .int .i64 t2], .bool true], σ)) (s4 : storeCellsA (σ4.push ⟨[.int .i64 0, .int .i64 0], 2, false⟩) σ4.n 0 [.int .i64 t1, .int .i64 t2] = some σ5) (l14 : cellsAt σ5 (.ptr σ4.n 0) 2 = some [.int .i64 t1, .int .i64 t2]) (s5 : storeCellsA σ5 2 0 [.int .i64 t1, .int .i64 t2] = some σ6) (hw : wrapA .i64 ((i : Int) + 1) = (i : Int) + 1) :
    exI TT (FI.of Try.f37 (TT.an 37)) K37_0 [(0, .int .i64 n), (1, .int .i64 r), (4, .ptr 0 0), (6, .ptr 1 0), (7, .lst m cells), (8, .ptr 2 0), (9, .int .i64 i)] σ = exI TT (FI.of Try.f37 (TT.an 37)) K37_0 [(0, .int .i64 n), (1, .int .i64 r), (4, .ptr 0 0), (6, .ptr 1 0), (7, .lst m cells), (8, .ptr 2 0), (9, .int .i64 ((i : Int) + 1))] σ6 := by
  rw [fi37]
  conv => lhs; rw [xl37_0]
  simp only [B37_0, b37, Try.f37, Option.getD, fstC, sndC, bodyC, thnC, elsC]
  simp (maxSteps := 1000000) (disch := omega) [eK37_0_0, getCells, takeN, dropN, fieldAddrA, allOne, AV.one, n_push, putN, overN, blt_dec, buildA, sizesOf, fillA, putCells, List.take_succ_cons, List.take_zero, List.drop_succ_cons, List.drop_zero, List.nil_append, List.cons_append, List.length_cons, List.length_nil, eqvs_dgs, convA, hi, c1, l6, c2, c3, s1, l10, hd, l10c, l7, c5, c6, s3, l8, l12, c7, s4, l14, s5, hw]
set_option maxHeartbeats 4000000 in
theorem e37 (n r : Int) (m : Nat) (cells : List AV) (v1 v2 : Int) (σ σ1 : St) (l8 : cellsAt σ (.ptr 2 0) 2 = some [.int .i64 v1, .int .i64 v2]) (s1 : storeCellsA σ 0 0 [.int .i64 v1, .int .i64 v2] = some σ1) (l4 : cellsAt σ1 (.ptr 0 0) 2 = some [.int .i64 v1, .int .i64 v2]) :
    exI TT (FI.of Try.f37 (TT.an 37)) K37_0 [(0, .int .i64 n), (1, .int .i64 r), (4, .ptr 0 0), (6, .ptr 1 0), (7, .lst m cells), (8, .ptr 2 0), (9, .int .i64 m)] σ = some (.tup [.agg [.int .i64 v1, .int .i64 v2], .bool true], σ1) := by
  rw [fi37]
  conv => lhs; rw [xl37_0]
  simp only [B37_0, b37, Try.f37, Option.getD, fstC, sndC, bodyC, thnC, elsC]
  simp (maxSteps := 1000000) (disch := omega) [eK37_0_0, getCells, takeN, dropN, fieldAddrA, allOne, AV.one, n_push, putN, overN, blt_dec, buildA, sizesOf, fillA, putCells, List.take_succ_cons, List.take_zero, List.drop_succ_cons, List.drop_zero, List.nil_append, List.cons_append, List.length_cons, List.length_nil, eqvs_dgs, convA, l8, s1, l4]
  simp only [R37_0_0, b37, Try.f37, Option.getD, fstC, sndC, bodyC, thnC, elsC]
  simp (maxSteps := 1000000) (disch := omega) [eK37_0_0, getCells, takeN, dropN, fieldAddrA, allOne, AV.one, n_push, putN, overN, blt_dec, buildA, sizesOf, fillA, putCells, List.take_succ_cons, List.take_zero, List.drop_succ_cons, List.drop_zero, List.nil_append, List.cons_append, List.length_cons, List.length_nil, eqvs_dgs, convA, l8, s1, l4]
set_option maxHeartbeats 4000000 in
theorem b37e (n r : Int) (m : Nat) (cells : List AV) (e1 e2 : Int) (fc : Int) (σ0 σ1 σ2 σ3 σ4 : St) (h1 : (⟨[], 0⟩ : St).push ⟨[.int .i64 0, .int .i64 0], 2, false⟩ = σ0) (hn0 : σ0.n = 1) (c1 : ∀ σ, callI TT 92 [.int .i64 n, .int .i64 1, .int .i64 8] σ = some (.bool true, σ)) (c2 : ∀ σ, callI TT 92 [.int .i64 r, .int .i64 0, .int .i64 5] σ = some (.bool true, σ)) (c4 : ∀ σ, callI TT 101 [.int .i64 n] σ = some (.int .i64 fc, σ)) (c5 : ∀ σ, callI TT 100 [.int .i64 1, .int .i64 fc] σ = some (.agg [.int .i64 e1, .int .i64 e2], σ)) (h2 : σ0.push ⟨[.int .i64 0, .int .i64 0], 2, false⟩ = σ1) (s1 : storeCellsA σ1 1 0 [.int .i64 e1, .int .i64 e2] = some σ2) (hn2 : σ2.n = 2) (c6 : ∀ σ, callI TT 102 [.int .i64 n] σ = some (.lst m cells, σ)) (c7 : ∀ σ, callI TT 87 [] σ = some (.agg [.int .i64 0, .int .i64 1], σ)) (h3 : σ2.push ⟨[.int .i64 0, .int .i64 0], 2, false⟩ = σ3) (s2 : storeCellsA σ3 2 0 [.int .i64 0, .int .i64 1] = some σ4) :
    exI TT (FI.of Try.f37 (TT.an 37)) [.code b37] (paramsE 0 [.int .i64 n, .int .i64 r]) ⟨[], 0⟩ = exI TT (FI.of Try.f37 (TT.an 37)) K37_0 [(0, .int .i64 n), (1, .int .i64 r), (4, .ptr 0 0), (6, .ptr 1 0), (7, .lst m cells), (8, .ptr 2 0), (9, .int .i64 1)] σ4 := by
  rw [fi37]
  simp only [b37, Try.f37, Option.getD, fstC, sndC, bodyC, thnC, elsC]
  simp (maxSteps := 1000000) (disch := omega) [eK37_0_0, getCells, takeN, dropN, fieldAddrA, allOne, AV.one, n_push, putN, overN, blt_dec, buildA, sizesOf, fillA, putCells, List.take_succ_cons, List.take_zero, List.drop_succ_cons, List.drop_zero, List.nil_append, List.cons_append, List.length_cons, List.length_nil, eqvs_dgs, convA, h1, hn0, c1, c2, c4, c5, h2, s1, hn2, c6, c7, h3, s2]
  rfl
def QC (q : Rat) : List AV := [.int .i64 q.num, .int .i64 q.den]
theorem Bx.rd1 {σ : St} {b : Nat} {x y : AV} (h : Bx σ b [x, y]) : cellsAt σ (.ptr b 0) 1 = some [x] := by
  obtain ⟨⟨m, hg⟩, _⟩ := h
  simp [cellsAt, hg, getCells, dropN, takeN]
theorem mk_self {q : Rat} : mkRat q.num (q.den : Int).toNat = q := by rw [Int.toNat_natCast, Rat.mkRat_self]
theorem add_c {a b : Rat} (ha : fits a = true) (hb : fits b = true) (h : fits (a + b) = true) (σ : St) : callI TT 103 [.agg (QC a), .agg (QC b)] σ = some (.tup [.agg (QC (a + b)), .bool true], σ) := by
  have := v103 (vfr_of ha) (vfr_of hb) σ [.agg (QC a), .agg (QC b)] rfl
  rw [mk_self, mk_self, frA_yes h] at this
  exact this
theorem mul_c {a b : Rat} (ha : fits a = true) (hb : fits b = true) (h : fits (a * b) = true) (σ : St) : callI TT 105 [.agg (QC a), .agg (QC b)] σ = some (.tup [.agg (QC (a * b)), .bool true], σ) := by
  have := v105 (vfr_of ha) (vfr_of hb) σ [.agg (QC a), .agg (QC b)] rfl
  rw [mk_self, mk_self, frA_yes h] at this
  exact this
theorem fits_num {q : Rat} (h : fits q = true) : -1000000000000000000 ≤ q.num ∧ q.num ≤ 1000000000000000000 := by
  have := (fits_iff.1 h).1
  unfold nm at this
  omega
theorem neg_c {a : Rat} (ha : fits a = true) (σ : St) : callI TT 104 [.agg (QC a)] σ = some (.agg (QC (-a)), σ) := by
  have hb := fits_num ha
  have := v104 a.num a.den (by omega) (by omega) σ [.agg (QC a)] rfl
  rw [this]
  unfold QC
  rw [Rat.neg_num, Rat.neg_den]
theorem fits_neg {a : Rat} (h : fits a = true) : fits (-a) = true := by
  rw [fits_iff] at h ⊢
  rw [nm_neg, Rat.neg_den]; exact h
theorem fits_abs {a : Rat} (h : fits a = true) : fits a.abs = true := by
  rw [fits_iff] at h ⊢
  obtain ⟨e1, _, e3⟩ := abs_parts a
  rw [e1, e3]; exact h
theorem l37 (n r : Nat) (h : RD n r) (hn : n ≤ 8) (hr : r ≤ 5) : ∀ (m k : Nat) (σ : St), k + m = n → Bx σ 2 (QC (sumI (spT n r) k)) → fits (sumI (spT n r) k) = true → Bx σ 1 (QC (evenQ n)) → (∃ z, Bx σ 0 z ∧ z.length = 2) →
    ∃ σ', exI TT (FI.of Try.f37 (TT.an 37)) K37_0 [(0, .int .i64 n), (1, .int .i64 r), (4, .ptr 0 0), (6, .ptr 1 0), (7, .lst (n + 1) (ints ((eul n).take (n + 1)))), (8, .ptr 2 0), (9, .int .i64 (k + 1 : Nat))] σ = some (frA (rdQ n r), σ') := by
  intro m
  induction m with
  | zero =>
    intro k σ hk hb hf he hz
    obtain rfl : k = n := by omega
    obtain ⟨z, hz, hzl⟩ := hz
    rw [← h.q, frA_yes hf]
    obtain ⟨σ1, a1, a2, a3⟩ := hz.st (ws := QC (sumI (spT k r) k)) (by rw [hzl]; rfl) rfl
    exact ⟨σ1, e37 k r (k + 1) _ _ _ σ σ1 (hb.rd rfl) a1 (a2.rd rfl)⟩
  | succ m ih =>
    intro k σ hk hb hf he hz
    have hkn : k < n := by omega
    have hi1 : ((k + 1 + 1 : Nat) : Int) = ((k + 1 : Nat) : Int) + 1 := by omega
    have hw : wrapA .i64 (((k + 1 : Nat) : Int) + 1) = ((k + 1 : Nat) : Int) + 1 := wrapA_id (by omega) (by omega)
    have fd := h.d k hkn
    have ft := h.t k hkn
    have fs := h.s k hkn
    have fm := h.m k hkn
    have fe := h.e
    have fx := chance_fits n (k + 1) r (by omega) (by omega) hr (by have : r * n ≤ 5 * 8 := Nat.mul_le_mul hr hn; omega)
    obtain ⟨y1, y2⟩ := h.b k hkn
    have c1 := fun σ => r95 n (k + 1) r (by omega) (by omega) hr σ [.int .i64 n, .int .i64 (k + 1 : Nat), .int .i64 r] rfl
    have c2 := fun σ => neg_c fe σ
    have c3 := fun σ => add_c fx (fits_neg fe) (by rw [← Rat.sub_eq_add_neg]; exact fd) σ
    have e3 : chance n (k + 1) r + -evenQ n = chance n (k + 1) r - evenQ n := (Rat.sub_eq_add_neg _ _).symm
    rw [e3] at c3
    obtain ⟨σ2, a1, a2, a3, a4⟩ := new_box (σ := σ) (z := [.int .i64 0, .int .i64 0]) (x := QC (chance n (k + 1) r - evenQ n)) (m := 2) rfl rfl
    obtain ⟨z, hz, hzl⟩ := hz
    have hyl : at0 ((eul n).take (n + 1)) (k + 1) = at0 (eul n) (k + 1) := by
      unfold at0
      rw [List.getD_eq_getElem?_getD, List.getElem?_take, if_pos (by omega), ← List.getD_eq_getElem?_getD]
    have hll : k + 1 < ((eul n).take (n + 1)).length := by rw [List.length_take, h.l]; omega
    have cy := fun σ : St => lp_read (σ := σ) (l := (eul n).take (n + 1)) (i := k + 1) hll
    rw [hyl] at cy
    have c5 := fun σ => v100 (at0 (eul n) (k + 1)) 2 (by omega) (by omega) (by decide) (by decide) σ [.int .i64 (at0 (eul n) (k + 1)), .int .i64 (2 : Nat)] rfl
    have e4 : (chance n (k + 1) r - evenQ n).abs * mkRat (at0 (eul n) (k + 1)) 2 = spT n r k := rfl
    have c6 := fun σ => mul_c (fits_abs fd) fm (by rw [e4]; exact ft) σ
    rw [e4] at c6
    have c7 := fun σ => add_c hf ft fs σ
    by_cases hd : (chance n (k + 1) r - evenQ n).num < 0
    · have hab : (chance n (k + 1) r - evenQ n).abs = -(chance n (k + 1) r - evenQ n) := Rat.abs_of_nonpos (by
        have := (ng_iff (q := chance n (k + 1) r - evenQ n)).1 (decide_eq_true hd)
        exact Rat.le_of_lt this)
      rw [hab] at c6
      obtain ⟨σ3, b1, b2, b3⟩ := a2.st (ws := QC (-(chance n (k + 1) r - evenQ n))) rfl rfl
      have hbl := hb.lt
      have hel := he.lt
      have hzl0 := hz.lt
      obtain ⟨σ4, d1, d2, d3, d4⟩ := new_box (σ := σ3) (z := [.int .i64 0, .int .i64 0]) (x := QC (spT n r k)) (m := 2) rfl rfl
      have hb4 := ((hb.old a3).but (by omega) b3).old d3
      have he4 := ((he.old a3).but (by omega) b3).old d3
      have hz4 := ((hz.old a3).but (by omega) b3).old d3
      obtain ⟨σ5, f1, f2, f3, f4⟩ := new_box (σ := σ4) (z := [.int .i64 0, .int .i64 0]) (x := QC (sumI (spT n r) k + spT n r k)) (m := 2) rfl rfl
      obtain ⟨σ6, g1, g2, g3⟩ := (hb4.old f3).st (ws := QC (sumI (spT n r) (k + 1))) rfl rfl
      obtain ⟨σ', k3⟩ := ih (k + 1) σ6 (by omega) g2 fs ((he4.old f3).but (by decide) g3) ⟨z, (hz4.old f3).but (by decide) g3, hzl⟩
      rw [hi1] at k3
      refine ⟨σ', ?_⟩
      rw [← k3]
      exact s37n n r _ (n + 1) (k + 1) _ _ _ _ _ _ _ _ _ _ _ _ _ _ _ _ _ _ _ σ σ2 σ3 σ4 σ5 σ6 (by omega) c1 (he.rd rfl) c2 c3 a1 a2.rd1 hd (a2.rd rfl) (fun σ => neg_c fd σ) b1 (b2.rd rfl) (cy σ3) c5 c6 d1 (hb4.rd rfl) (d2.rd rfl) c7 f1 (f2.rd rfl) g1 hw
    · have hab : (chance n (k + 1) r - evenQ n).abs = chance n (k + 1) r - evenQ n := Rat.abs_of_nonneg (Rat.num_nonneg.1 (by omega))
      rw [hab] at c6
      have hbl := hb.lt
      obtain ⟨σ4, d1, d2, d3, d4⟩ := new_box (σ := σ2) (z := [.int .i64 0, .int .i64 0]) (x := QC (spT n r k)) (m := 2) rfl rfl
      have hb4 := (hb.old a3).old d3
      have he4 := (he.old a3).old d3
      have hz4 := (hz.old a3).old d3
      obtain ⟨σ5, f1, f2, f3, f4⟩ := new_box (σ := σ4) (z := [.int .i64 0, .int .i64 0]) (x := QC (sumI (spT n r) k + spT n r k)) (m := 2) rfl rfl
      obtain ⟨σ6, g1, g2, g3⟩ := (hb4.old f3).st (ws := QC (sumI (spT n r) (k + 1))) rfl rfl
      obtain ⟨σ', k3⟩ := ih (k + 1) σ6 (by omega) g2 fs ((he4.old f3).but (by decide) g3) ⟨z, (hz4.old f3).but (by decide) g3, hzl⟩
      rw [hi1] at k3
      refine ⟨σ', ?_⟩
      rw [← k3]
      exact s37p n r _ (n + 1) (k + 1) _ _ _ _ _ _ _ _ _ _ _ _ _ _ _ _ _ σ σ2 σ4 σ5 σ6 (by omega) c1 (he.rd rfl) c2 c3 a1 a2.rd1 (by omega) (a2.rd rfl) (cy σ2) c5 c6 d1 (hb4.rd rfl) (d2.rd rfl) c7 f1 (f2.rd rfl) g1 hw
theorem r37 (n r : Int) : FnV TT 37 [.int .i64 n, .int .i64 r] (valRD n r) := by
  have c1 := fun σ : St => c92 n 1 8 σ
  have c2 := fun σ : St => c92 r 0 5 σ
  unfold valRD
  cases hh : (inR n 1 8 && inR r 0 5) with
  | true =>
    simp only [Bool.and_eq_true] at hh
    obtain ⟨h1, h2⟩ := hh
    rw [h1] at c1
    rw [h2] at c2
    have e1 := inR_iff.1 h1
    have e2 := inR_iff.1 h2
    obtain ⟨n, rfl⟩ : ∃ k : Nat, n = k := ⟨n.toNat, by omega⟩
    obtain ⟨r, rfl⟩ : ∃ k : Nat, r = k := ⟨r.toNat, by omega⟩
    have h := rd n r (by omega) (by omega) (by omega)
    rw [if_pos rfl, Int.toNat_natCast, Int.toNat_natCast]
    have hf := h.f
    have hx0 : Bx ((⟨[], 0⟩ : St).push ⟨[.int .i64 0, .int .i64 0], 2, false⟩) 0 [.int .i64 0, .int .i64 0] := Bx.push
    obtain ⟨σ2, a1, a2, a3, a4⟩ := new_box (σ := (⟨[], 0⟩ : St).push ⟨[.int .i64 0, .int .i64 0], 2, false⟩) (z := [.int .i64 0, .int .i64 0]) (x := QC (evenQ n)) (m := 2) rfl rfl
    obtain ⟨σ4, b1, b2, b3, b4⟩ := new_box (σ := σ2) (z := [.int .i64 0, .int .i64 0]) (x := QC 0) (m := 2) rfl rfl
    have hn2 : σ2.n = 2 := a4
    rw [hn2] at b1 b2
    obtain ⟨σ', k1⟩ := l37 n r h (by omega) (by omega) n 0 σ4 (by omega) b2 (show fits (0 : Rat) = true by decide +kernel) (a2.old b3) ⟨_, (hx0.old a3).old b3, rfl⟩
    have c5 := fun σ => v100 1 (facN n) (by decide) (by decide) (by omega) (by omega) σ [.int .i64 1, .int .i64 (facN n : Nat)] rfl
    exact FnV.mk (c := b37) fn37 rfl md37 ⟨σ', (b37e n r (n + 1) (ints ((eul n).take (n + 1))) _ _ _ _ _ σ2 _ σ4 rfl rfl c1 c2 (fun σ => r101 n (by omega) (by omega) σ _ rfl) c5 rfl a1 hn2 (fun σ => (r102 n (by omega) (by omega)).pure σ rfl rfl) (fun σ => z87 σ [] rfl) rfl b1).trans k1⟩ (frA_frz _) (frA_scal _)
  | false => exact FnV.mk fn37 rfl md37 (k37f _ _ _ _ c1 c2 hh) (fun _ => rfl) rfl

set_option maxHeartbeats 4000000 in
theorem k10 (n r a b : Int) (c : Bool) (c2 : ∀ σ, callI TT 37 [.int .i64 n, .int .i64 r] σ = some (.tup [.agg [.int .i64 a, .int .i64 b], .bool c], σ)) (c3 : ∀ σ, callI TT 38 [.int .i64 n, .int .i64 r] σ = some (.tup [.agg [.int .i64 a, .int .i64 b], .bool c], σ)) (c4 : ∀ σ, callI TT 26 [.agg [.int .i64 a, .int .i64 b], .agg [.int .i64 a, .int .i64 b]] σ = some (.bool true, σ)) :
    ∃ σ', exI TT (FI.of Try.f10 (TT.an 10)) [.code (Try.f10.body.getD .skip)] (paramsE 0 [.int .i64 n, .int .i64 r]) ⟨[], 0⟩ = some (.bool true, σ') := by
  refine ex1 ?_
  rw [fi10]
  simp only [Try.f10, Option.getD]
  cases c <;>
  simp (maxSteps := 1000000) (disch := omega) [cellsAt, getCells, takeN, dropN, fieldAddrA, allOne, AV.one, n_push, storeCellsA, putN, overN, St.push, St.get, St.set, hget, hset, blt_dec, buildA, sizesOf, fillA, putCells, List.take_succ_cons, List.take_zero, List.drop_succ_cons, List.drop_zero, List.nil_append, List.cons_append, List.length_cons, List.length_nil, eqvs_dgs, convA, c2, c3, c4]
theorem w10 (n r : Int) : FnV TT 10 [.int .i64 n, .int .i64 r] (.bool true) := by
  have c2 := r37 n r
  have c3 := r38 n r
  obtain ⟨a, b, c, hR⟩ := valRD_is n r
  rw [hR] at c2 c3
  exact FnV.mk fn10 rfl md10 (k10 _ _ a b c (fun σ => c2 σ _ rfl) (fun σ => c3 σ _ rfl) (fun σ => r26 a b σ _ rfl)) (fun _ => rfl) rfl

end Go.Proofs.Ytihoeimlkbjgmaa
