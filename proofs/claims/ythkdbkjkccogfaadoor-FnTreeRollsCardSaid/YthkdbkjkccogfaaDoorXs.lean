/- Trees: how often the leaves are reached, and at what cost. -/
import Derived.Test.YthkdbkjkccogfaaDoorWx
namespace Go.Wd
set_option linter.unusedVariables false
set_option linter.unusedSimpArgs false
/-- Sums over the numbers below n. -/
def sm (f : Nat → Nat) : Nat → Nat
  | 0 => 0
  | n + 1 => sm f n + f n
theorem sm_congr {f g : Nat → Nat} : ∀ n, (∀ i, i < n → f i = g i) → sm f n = sm g n
  | 0, _ => rfl
  | n + 1, h => by rw [sm, sm, sm_congr n (fun i hi => h i (by omega)), h n (by omega)]
theorem sm_add (f g : Nat → Nat) : ∀ n, sm (fun i => f i + g i) n = sm f n + sm g n
  | 0 => rfl
  | n + 1 => by rw [sm, sm, sm, sm_add f g n]; omega
theorem sm_app (f : Nat → Nat) (a : Nat) : ∀ b, sm f (a + b) = sm f a + sm (fun i => f (a + i)) b
  | 0 => rfl
  | b + 1 => by
    show sm f (a + b) + f (a + b) = _
    rw [sm_app f a b, sm]; omega
theorem sm_two (f : Nat → Nat) : ∀ n, sm f (2 * n) = sm (fun i => f (2 * i) + f (2 * i + 1)) n
  | 0 => rfl
  | n + 1 => by
    rw [show 2 * (n + 1) = 2 * n + 1 + 1 by omega, sm, sm, sm_two f n, sm]; omega
theorem sm_const (c : Nat) : ∀ n, sm (fun _ => c) n = n * c
  | 0 => by rw [Nat.zero_mul]; rfl
  | n + 1 => by rw [sm, sm_const c n, Nat.succ_mul]
theorem sm_swap (f : Nat → Nat → Nat) (n : Nat) : ∀ m, sm (fun i => sm (f i) n) m = sm (fun j => sm (fun i => f i j) m) n
  | 0 => by
    have : ∀ n, sm (fun _ : Nat => 0) n = 0 := fun n => by rw [sm_const]; exact Nat.mul_zero n
    show 0 = sm (fun j => 0) n
    rw [this]
  | m + 1 => by
    rw [sm, sm_swap f n m, ← sm_add]
    exact sm_congr n fun j _ => rfl
/-- The nodes of the levels: the first L(d) of level d are leaves, the others have two children. -/
structure Tree (K : Nat) (L : Nat → Nat) (A : Nat → Nat) : Prop where
  root : A 0 = 1
  leaf : ∀ d, d ≤ K → L d ≤ A d
  next : ∀ d, d < K → A (d + 1) = 2 * (A d - L d)
  last : A K = L K
/-- A value at the leaves, counted for all strings of m bits from node v of level K - m. -/
def reach (K : Nat) (L : Nat → Nat) (g : Nat → Nat → Nat) : Nat → Nat → Nat
  | 0, v => g K v
  | m + 1, v => if v < L (K - (m + 1)) then 2 ^ (m + 1) * g (K - (m + 1)) v else reach K L g m (2 * (v - L (K - (m + 1)))) + reach K L g m (2 * (v - L (K - (m + 1))) + 1)
/-- What the strings of a level's nodes come to: each leaf counts for all strings that begin with its path. -/
def total (K : Nat) (L : Nat → Nat) (g : Nat → Nat → Nat) : Nat → Nat
  | 0 => sm (g K) (L K)
  | m + 1 => 2 ^ (m + 1) * sm (g (K - (m + 1))) (L (K - (m + 1))) + total K L g m
theorem sm_mul (c : Nat) (f : Nat → Nat) : ∀ n, sm (fun i => c * f i) n = c * sm f n
  | 0 => rfl
  | n + 1 => by rw [sm, sm, sm_mul c f n, Nat.mul_add]
theorem reach_sum {K : Nat} {L A : Nat → Nat} (h : Tree K L A) (g : Nat → Nat → Nat) : ∀ m, m ≤ K → sm (reach K L g m) (A (K - m)) = total K L g m
  | 0, _ => by
    show sm (fun v => g K v) (A (K - 0)) = sm (g K) (L K)
    rw [Nat.sub_zero, h.last]
  | m + 1, hm => by
    have hl := h.leaf (K - (m + 1)) (by omega)
    have hn := h.next (K - (m + 1)) (by omega)
    rw [show K - (m + 1) + 1 = K - m by omega] at hn
    have ih := reach_sum h g m (by omega)
    rw [hn, sm_two] at ih
    rw [show A (K - (m + 1)) = L (K - (m + 1)) + (A (K - (m + 1)) - L (K - (m + 1))) by omega, sm_app]
    rw [sm_congr (f := reach K L g (m + 1)) (g := fun v => 2 ^ (m + 1) * g (K - (m + 1)) v) _ (fun i hi => by rw [reach, if_pos hi]), sm_mul]
    rw [sm_congr (f := fun i => reach K L g (m + 1) (L (K - (m + 1)) + i)) (g := fun i => reach K L g m (2 * i) + reach K L g m (2 * i + 1)) _ (fun i hi => by
      rw [reach, if_neg (by omega), Nat.add_sub_cancel_left]), ih, total]
/-- All strings from the root. -/
theorem reach_root {K : Nat} {L A : Nat → Nat} (h : Tree K L A) (g : Nat → Nat → Nat) : reach K L g K 0 = total K L g K := by
  have := reach_sum h g K (Nat.le_refl K)
  rw [Nat.sub_self, h.root] at this
  rw [← this]
  show _ = 0 + reach K L g K 0
  omega
/-- The same as a sum over the levels. -/
theorem total_sm (K : Nat) (L : Nat → Nat) (g : Nat → Nat → Nat) : ∀ m, m ≤ K → total K L g m = sm (fun j => 2 ^ j * sm (g (K - j)) (L (K - j))) (m + 1)
  | 0, _ => by rw [total]; show _ = 0 + 2 ^ 0 * sm (g (K - 0)) (L (K - 0)); rw [Nat.sub_zero]; omega
  | m + 1, h => by
    rw [total, total_sm K L g m (by omega)]
    show _ = sm (fun j => 2 ^ j * sm (g (K - j)) (L (K - j))) (m + 1) + 2 ^ (m + 1) * sm (g (K - (m + 1))) (L (K - (m + 1)))
    omega
/-- The digits of a number sum to it. -/
theorem dig_sum (w : Nat) : ∀ k, sm (fun j => w / 2 ^ j % 2 * 2 ^ j) k = w % 2 ^ k
  | 0 => by rw [Nat.pow_zero, Nat.mod_one]; rfl
  | k + 1 => by
    rw [sm, dig_sum w k, Nat.mod_pow_succ, Nat.mul_comm]
/-- The nodes of level d. -/
def nodes (L : Nat → Nat) : Nat → Nat
  | 0 => 1
  | d + 1 => 2 * (nodes L d - L d)
/-- Leaves that fill the whole make a tree. -/
theorem tree_of {K : Nat} {L : Nat → Nat} (h : sm (fun d => L d * 2 ^ (K - d)) (K + 1) = 2 ^ K) : Tree K L (nodes L) := by
  have mono : ∀ a b, a ≤ b → sm (fun d => L d * 2 ^ (K - d)) a ≤ sm (fun d => L d * 2 ^ (K - d)) b := by
    intro a b hab
    obtain ⟨c, rfl⟩ : ∃ c, b = a + c := ⟨b - a, by omega⟩
    rw [sm_app]; omega
  have key : ∀ d, d ≤ K → nodes L d * 2 ^ (K - d) + sm (fun d => L d * 2 ^ (K - d)) d = 2 ^ K ∧ L d ≤ nodes L d := by
    intro d
    induction d with
    | zero =>
      intro _
      have h0 : L 0 * 2 ^ (K - 0) ≤ 2 ^ K := by
        have := mono 1 (K + 1) (by omega)
        rw [h] at this
        simpa [sm] using this
      refine ⟨by simp [nodes, sm], ?_⟩
      rw [Nat.sub_zero] at h0
      show L 0 ≤ 1
      have hp := Nat.two_pow_pos K
      exact Nat.le_of_mul_le_mul_right (by omega) hp
    | succ d ih =>
      intro hd
      obtain ⟨i1, i2⟩ := ih (by omega)
      have e : 2 ^ (K - d) = 2 ^ (K - (d + 1)) * 2 := by rw [← Nat.pow_succ]; congr 1; omega
      have e1 : nodes L (d + 1) * 2 ^ (K - (d + 1)) + sm (fun d => L d * 2 ^ (K - d)) (d + 1) = 2 ^ K := by
        rw [sm, nodes]
        have : 2 * (nodes L d - L d) * 2 ^ (K - (d + 1)) = (nodes L d - L d) * 2 ^ (K - d) := by
          rw [e, Nat.mul_comm 2, Nat.mul_assoc, Nat.mul_comm 2]
        rw [this, Nat.sub_mul]
        have h3 : L d * 2 ^ (K - d) ≤ nodes L d * 2 ^ (K - d) := Nat.mul_le_mul_right _ i2
        omega
      refine ⟨e1, ?_⟩
      have h4 := mono (d + 2) (K + 1) (by omega)
      rw [h, sm] at h4
      have hp := Nat.two_pow_pos (K - (d + 1))
      exact Nat.le_of_mul_le_mul_right (by omega) hp
  refine ⟨rfl, fun d hd => (key d hd).2, fun d _ => rfl, ?_⟩
  obtain ⟨k1, _⟩ := key K (Nat.le_refl K)
  rw [sm] at h
  have hp : 2 ^ (K - K) = 1 := by rw [Nat.sub_self, Nat.pow_zero]
  rw [hp, Nat.mul_one] at k1
  simp only [hp, Nat.mul_one] at h
  omega
end Go.Wd
