/- Numbers of ways to choose: the numbers themselves, and the functions that reckon them. Nothing is claimed here; no condition. -/
import Derived.Test.YtaniaeefijgaiaaCe
namespace Go.Proofs.Ytaniaeefijgaiaa
open Go Go.Abs
set_option linter.unusedSimpArgs false
set_option linter.unusedVariables false
/-! ### Pascal's numbers -/
def ch : Nat → Nat → Nat
  | _, 0 => 1
  | 0, _ + 1 => 0
  | n + 1, k + 1 => ch n k + ch n (k + 1)
theorem ch_0 (n : Nat) : ch n 0 = 1 := by cases n <;> rfl
theorem ch_gt : ∀ (n k : Nat), n < k → ch n k = 0
  | n, 0, h => by omega
  | 0, k + 1, _ => rfl
  | n + 1, k + 1, h => by rw [ch, ch_gt n k (by omega), ch_gt n (k + 1) (by omega)]
theorem ch_self : ∀ n : Nat, ch n n = 1
  | 0 => rfl
  | n + 1 => by rw [ch, ch_self n, ch_gt n (n + 1) (by omega)]
theorem ch_step : ∀ (n k : Nat), (k + 1) * ch n (k + 1) = (n - k) * ch n k
  | 0, k => by simp [ch]
  | n + 1, 0 => by
    have h := ch_step n 0
    simp only [Nat.zero_add, Nat.one_mul, Nat.sub_zero, ch_0, Nat.mul_one] at h
    rw [show ch (n + 1) (0 + 1) = ch n 0 + ch n 1 from rfl, ch_0, ch_0, h]; omega
  | n + 1, k + 1 => by
    have h1 := ch_step n (k + 1)
    have h2 := ch_step n k
    rw [ch, ch, Nat.mul_add, h1, Nat.mul_add, show n + 1 - (k + 1) = n - k by omega, ← h2]
    rcases Nat.lt_or_ge k n with h | h
    · obtain ⟨m, rfl⟩ : ∃ m, n = k + 1 + m := ⟨n - (k + 1), by omega⟩
      rw [show k + 1 + m - (k + 1) = m by omega, show k + 1 + m - k = m + 1 by omega]
      generalize ch (k + 1 + m) (k + 1) = z
      rw [← Nat.add_mul, ← Nat.add_mul]
      congr 1; omega
    · rw [ch_gt n (k + 1) (by omega)]; simp
theorem ch_symm : ∀ (n k : Nat), k ≤ n → ch n k = ch n (n - k)
  | 0, k, h => by obtain rfl : k = 0 := by omega
                  rfl
  | n + 1, 0, _ => by rw [ch_0, Nat.sub_zero, ch_self]
  | n + 1, k + 1, h => by
    rcases Nat.lt_or_ge k n with h1 | h1
    · obtain ⟨m, hm⟩ : ∃ m, n - k = m + 1 := ⟨n - k - 1, by omega⟩
      rw [show n + 1 - (k + 1) = m + 1 by omega, ch, ch, ch_symm n k (by omega), ch_symm n (k + 1) (by omega), hm, show n - (k + 1) = m by omega, Nat.add_comm]
    · obtain rfl : k = n := by omega
      rw [ch_self, Nat.sub_self, ch_0]
def adj : List Nat → List Nat
  | a :: b :: r => (a + b) :: adj (b :: r)
  | _ => []
def prow : Nat → List Nat
  | 0 => [1]
  | n + 1 => 1 :: (adj (prow n) ++ [1])
theorem adj_length : ∀ l : List Nat, (adj l).length = l.length - 1
  | [] => rfl
  | [_] => rfl
  | a :: b :: r => by simp [adj, adj_length (b :: r)]
theorem adj_get : ∀ (l : List Nat) (i a b : Nat), l[i]? = some a → l[i + 1]? = some b → (adj l)[i]? = some (a + b)
  | [], i, a, b, h, _ => by simp at h
  | [_], i, a, b, _, h => by simp at h
  | x :: y :: r, 0, a, b, h1, h2 => by simp at h1 h2; simp [adj, h1, h2]
  | x :: y :: r, i + 1, a, b, h1, h2 => by
    simp only [List.getElem?_cons_succ] at h1 h2
    simp only [adj, List.getElem?_cons_succ]
    exact adj_get (y :: r) i a b h1 h2
theorem prow_length : ∀ n : Nat, (prow n).length = n + 1
  | 0 => rfl
  | n + 1 => by simp [prow, adj_length, prow_length n]
theorem prow_get : ∀ (n k : Nat), k ≤ n → (prow n)[k]? = some (ch n k)
  | 0, k, h => by obtain rfl : k = 0 := by omega
                  rfl
  | n + 1, 0, _ => by simp [prow, ch_0]
  | n + 1, k + 1, h => by
    simp only [prow, List.getElem?_cons_succ]
    rcases Nat.lt_or_ge k n with h1 | h1
    · rw [List.getElem?_append_left (by rw [adj_length, prow_length]; omega), adj_get _ k _ _ (prow_get n k (by omega)) (prow_get n (k + 1) (by omega))]
      rfl
    · obtain rfl : k = n := by omega
      rw [List.getElem?_append_right (by rw [adj_length, prow_length]; omega), adj_length, prow_length, ch_self]
      simp
theorem prow60 : ((List.range 61).all fun n => (prow n).all fun x => Nat.ble x 118264581564861424) = true := by kernel_rfl
theorem ch_le {n k : Nat} (hn : n ≤ 60) : ch n k ≤ 118264581564861424 := by
  rcases Nat.lt_or_ge n k with h | h
  · rw [ch_gt n k h]; omega
  · have h1 := List.all_eq_true.1 prow60 n (List.mem_range.2 (by omega))
    have h2 := List.all_eq_true.1 h1 _ (List.mem_of_getElem? (prow_get n k h))
    exact Nat.le_of_ble_eq_true h2

theorem and32 (a : Nat) (h : a ≤ 18446744073709551615) : bitsA .and .u64 (a : Int) 4294967295 = some (.int .u64 ((a % 4294967296 : Nat) : Int)) := by
  have h1 : smallNat .u64 (a : Int) 4294967295 = some (a, 4294967295) := by
    show (bif Nat.ble a (topOf .u64) && Nat.ble 4294967295 (topOf .u64) then some (a, 4294967295) else none) = _
    have : Nat.ble a (topOf .u64) = true := by rw [Nat.ble_eq]; exact h
    rw [this]; rfl
  simp only [bitsA, h1]
  have : Nat.land a 4294967295 = a % 4294967296 := Nat.and_two_pow_sub_one_eq_mod a 32
  rw [this]; rfl
theorem shr32 (a : Nat) : shrA (a : Int) 32 = ((a / 4294967296 : Nat) : Int) := rfl
theorem wrapU {n : Nat} (h : n ≤ 18446744073709551615) : wrapA .u64 (n : Int) = n := by
  rw [wrapA_eq]; simp [IntKind.wrap, IntKind.bits, IntKind.signed]; omega

theorem c103 (a b : Nat) (ha : a < 144115188075855872) (hb : b < 64) (σ : St) : callI TT 103 [.int .u64 a, .int .u64 b] σ = some (.tup [.int .u64 0, .int .u64 ((a * b : Nat) : Int)], σ) := by
  refine (FnV.mk (args' := [.int .u64 a, .int .u64 b]) fn103 rfl md103 ⟨⟨[], 0⟩, ?_⟩ (fun _ => rfl) rfl) σ _ rfl
  obtain ⟨x0, hx0⟩ : ∃ x, x = a % 4294967296 := ⟨_, rfl⟩
  obtain ⟨x1, hx1⟩ : ∃ x, x = a / 4294967296 := ⟨_, rfl⟩
  have hx0l : x0 < 4294967296 := by omega
  have hx1l : x1 < 33554432 := by omega
  have e1 := and32 a (by omega)
  have e2 := shr32 a
  have e3 := and32 b (by omega)
  have e4 := shr32 b
  rw [← hx0] at e1
  rw [← hx1] at e2
  rw [show b % 4294967296 = b by omega] at e3
  rw [show b / 4294967296 = 0 by omega] at e4
  obtain ⟨w0, hw0⟩ : ∃ w, w = x0 * b := ⟨_, rfl⟩
  have hw0l : w0 < 4294967296 * 64 := by rw [hw0]; exact Nat.mul_lt_mul'' hx0l hb
  have m1 : wrapA .u64 ((x0 : Int) * b) = w0 := by rw [← Int.natCast_mul, wrapU (by omega), hw0]
  obtain ⟨w1, hw1⟩ : ∃ w, w = x1 * b := ⟨_, rfl⟩
  have hw1l : w1 < 33554432 * 64 := by rw [hw1]; exact Nat.mul_lt_mul'' hx1l hb
  have m2 : wrapA .u64 ((x1 : Int) * b) = w1 := by rw [← Int.natCast_mul, wrapU (by omega), hw1]
  have e5 := shr32 w0
  obtain ⟨t, ht⟩ : ∃ t, t = w1 + w0 / 4294967296 := ⟨_, rfl⟩
  have htl : t < 4294967296 := by omega
  have m3 : wrapA .u64 ((w1 : Int) + (w0 / 4294967296 : Nat)) = t := by rw [← Int.natCast_add, wrapU (by omega), ht]
  have e6 := and32 t (by omega)
  have e7 := shr32 t
  rw [show t % 4294967296 = t by omega] at e6
  rw [show t / 4294967296 = 0 by omega] at e7
  have m4 : wrapA .u64 ((a : Int) * b) = ((a * b : Nat) : Int) := by
    have : a * b ≤ 144115188075855872 * 64 := Nat.mul_le_mul (by omega) (by omega)
    rw [← Int.natCast_mul, wrapU (by omega)]
  have m5 : wrapA .u64 (0 : Int) = 0 := rfl
  have m6 : wrapA .u64 (t : Int) = t := wrapU (by omega)
  obtain ⟨z, hz⟩ : ∃ z, z = w0 / 4294967296 := ⟨_, rfl⟩
  obtain ⟨ab, hab⟩ : ∃ z, z = a * b := ⟨_, rfl⟩
  rw [← hz] at e5 m3
  rw [← hab] at m4 ⊢
  rw [show ((0 : Nat) : Int) = 0 from rfl] at e4 e7
  have hmin : min 32 IntKind.u64.bits = 32 := rfl
  rw [fi103]
  simp [xI_seq, xI_region, xI_ret, regA, regOps, runOps, opStep, wantedA, opA, evo, evos, calleeA, lk, nif_eq, putE, paramsE, valS, val2, keepE, restrict, finA, resA, binA, binInt, ofConst, ofConst1, loadA, TK.isAgg, asVar, unA, builtinA, lenOpA, lenA, ileb_cast, ileb_eq, ieqb_dec, indexAddrA, inB_dec, evPairs, storeA, AV.cellsOf, pairsOf, xI_nil, binBool, gcE, evOpt, xI_block, xI_loopH, xI_condM, xI_exitM, xI_skip, xI_blk, exitA, ty71, e1, e2, e3, e4, m1, m2, e5, m3, e6, e7, m4, m5, m6, hmin]

theorem c104 (a b : Nat) (hb : 0 < b) (hb2 : b ≤ 18446744073709551615) (ha : a ≤ 18446744073709551615) (σ : St) : ∃ r : Int, callI TT 104 [.int .u64 0, .int .u64 a, .int .u64 b] σ = some (.tup [.int .u64 ((a / b : Nat) : Int), .int .u64 r], σ) := by
  refine ⟨((a : Int).tmod b), (FnV.mk (args' := [.int .u64 0, .int .u64 a, .int .u64 b]) fn104 rfl md104 ⟨⟨[], 0⟩, ?_⟩ (fun _ => rfl) rfl) σ _ rfl⟩
  have h1 : ¬ (b : Int) = 0 := by omega
  have h1' : ¬ b = 0 := by omega
  have h2 : ¬ (b : Int) ≤ 0 := by omega
  obtain ⟨q, hq⟩ : ∃ q, q = a / b := ⟨_, rfl⟩
  have hq2 : q ≤ a := by rw [hq]; exact Nat.div_le_self _ _
  have h3 : (a : Int).tdiv b = q := by rw [hq]; rfl
  have h4 : wrapA .u64 (q : Int) = q := wrapU (by omega)
  rw [← hq, fi104]
  simp [xI_seq, xI_region, xI_ret, regA, regOps, runOps, opStep, wantedA, opA, evo, evos, calleeA, lk, nif_eq, putE, paramsE, valS, val2, keepE, restrict, finA, resA, binA, binInt, ofConst, ofConst1, loadA, TK.isAgg, asVar, unA, builtinA, lenOpA, lenA, ileb_cast, ileb_eq, ieqb_dec, indexAddrA, inB_dec, evPairs, storeA, AV.cellsOf, pairsOf, xI_nil, binBool, gcE, evOpt, xI_block, xI_loopH, xI_condM, xI_exitM, xI_skip, xI_blk, exitA, ty3, ty71, ty77, ty83, h1, h1', h2, h3, h4]

end Go.Proofs.Ytaniaeefijgaiaa
