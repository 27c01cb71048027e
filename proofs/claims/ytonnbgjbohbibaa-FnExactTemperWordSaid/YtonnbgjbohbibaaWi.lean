/- Jumps of a linear machine, and the machine of shifts. -/
import Derived.Test.YtonnbgjbohbibaaWc
namespace Go.Wd

/-- The state after n steps, by squares. -/
def jump : Nat → List Nat → Nat → Nat → Nat
  | 0, _, s, _ => s
  | k + 1, rows, s, n => if n = 0 then s else jump k (times rows rows) (if n % 2 = 1 then app rows s else s) (n / 2)

/-- The rows of n steps, by squares. -/
def power : Nat → List Nat → List Nat → Nat → List Nat
  | 0, _, out, _ => out
  | k + 1, rows, out, n => if n = 0 then out else power k (times rows rows) (if n % 2 = 1 then times out rows else out) (n / 2)

theorem times_length (a b : List Nat) : (times a b).length = b.length := by simp [times]

theorem app_power (k : Nat) : ∀ (rows out : List Nat) (s n : Nat), rows.length ≤ 64 → out.length ≤ 64 → app (power k rows out n) s = jump k rows (app out s) n := by
  induction k with
  | zero => intro rows out s n _ _; rfl
  | succ k ih =>
    intro rows out s n hr ho
    simp only [power, jump]
    by_cases h : n = 0
    · simp [h]
    · simp only [h, if_false]
      by_cases h1 : n % 2 = 1
      · simp only [h1, if_true]
        rw [ih _ _ _ _ (by rw [times_length]; exact hr) (by rw [times_length]; exact hr), app_times _ _ _ ho]
      · simp only [h1, if_false]
        exact ih _ _ _ _ (by rw [times_length]; exact hr) ho

theorem par_bit {c : Nat} (hc : c < 64) (e : Nat) : par (e &&& 2 ^ c) = if e.testBit c then 1 else 0 := by
  rw [and_two_pow]; cases e.testBit c
  · simp [par_zero]
  · simp [par_two_pow hc]

theorem app_testBit (rows : List Nat) (s i : Nat) : (app rows s).testBit i = (decide (i < rows.length) && decide (par (rows.getD i 0 &&& s) = 1)) := by
  induction rows generalizing i with
  | nil => simp [app]
  | cons r rows ih =>
    have hp := par_lt (r &&& s)
    cases i with
    | zero =>
      simp only [app, Nat.testBit_zero, List.length_cons, List.getD_cons_zero]
      have : (par (r &&& s) + 2 * app rows s) % 2 = par (r &&& s) := by omega
      rw [this]; simp
    | succ i =>
      simp only [app, Nat.testBit_succ, List.length_cons, List.getD_cons_succ]
      have : (par (r &&& s) + 2 * app rows s) / 2 = app rows s := by omega
      rw [this, ih]; simp

theorem units_length (a k : Nat) : (units a k).length = k := by
  induction k generalizing a with
  | zero => rfl
  | succ k ih => simp [units, ih]

theorem units_getD (a k i : Nat) (h : i < k) : (units a k).getD i 0 = 2 ^ (a + i) := by
  induction k generalizing a i with
  | zero => omega
  | succ k ih =>
    cases i with
    | zero => simp [units]
    | succ i =>
      simp only [units, List.getD_cons_succ]
      rw [ih (a + 1) i (by omega)]; congr 1; omega

theorem app_units {w s : Nat} (hw : w ≤ 64) (h : s < 2 ^ w) : app (units 0 w) s = s := by
  apply Nat.eq_of_testBit_eq
  intro i
  rw [app_testBit, units_length]
  by_cases hi : i < w
  · rw [units_getD 0 w i hi, Nat.zero_add, Nat.and_comm, par_bit (by omega)]
    cases s.testBit i <;> simp [hi]
  · rw [Nat.testBit_lt_two_pow (Nat.lt_of_lt_of_le h (Nat.pow_le_pow_right (by decide) (by omega)))]
    simp [hi]

/-- The row i of a move up by some bits. -/
def upRow (b i : Nat) : Nat := 2 ^ i ^^^ (if b ≤ i then 2 ^ (i - b) else 0)
/-- The row i of a move down by some bits, of a width. -/
def downRow (w b i : Nat) : Nat := 2 ^ i ^^^ (if i + b < w then 2 ^ (i + b) else 0)

theorem getD_map_range (f : Nat → Nat) (w i : Nat) (h : i < w) : ((List.range w).map f).getD i 0 = f i := by
  simp [List.getD, h]

theorem app_up {w b s : Nat} (hw : w ≤ 64) (hs : s < 2 ^ w) : app ((List.range w).map (upRow b)) s = s ^^^ (s * 2 ^ b % 2 ^ w) := by
  apply Nat.eq_of_testBit_eq
  intro i
  rw [app_testBit, Nat.testBit_xor, Nat.testBit_mod_two_pow, Nat.testBit_mul_two_pow]
  simp only [List.length_map, List.length_range]
  by_cases hi : i < w
  · rw [getD_map_range _ _ _ hi]
    have e : par (upRow b i &&& s) = (if s.testBit i then 1 else 0) ^^^ (if b ≤ i then (if s.testBit (i - b) then 1 else 0) else 0) := by
      unfold upRow
      rw [Nat.and_xor_distrib_right, par_xor, Nat.and_comm, par_bit (by omega)]
      by_cases hb : b ≤ i
      · simp only [hb, if_true]
        rw [Nat.and_comm, par_bit (by omega)]
      · simp only [hb, if_false, Nat.zero_and, par_zero]
    rw [e]
    by_cases hb : b ≤ i
    · cases s.testBit i <;> cases s.testBit (i - b) <;> simp [hi, hb]
    · cases s.testBit i <;> simp [hb, hi]
  · rw [Nat.testBit_lt_two_pow (Nat.lt_of_lt_of_le hs (Nat.pow_le_pow_right (by decide) (by omega)))]
    simp [hi]

theorem app_down {w b s : Nat} (hw : w ≤ 64) (hs : s < 2 ^ w) : app ((List.range w).map (downRow w b)) s = s ^^^ (s / 2 ^ b) := by
  have hz : ∀ j, w ≤ j → s.testBit j = false := fun j hj => Nat.testBit_lt_two_pow (Nat.lt_of_lt_of_le hs (Nat.pow_le_pow_right (by decide) hj))
  apply Nat.eq_of_testBit_eq
  intro i
  rw [app_testBit, Nat.testBit_xor, Nat.testBit_div_two_pow]
  simp only [List.length_map, List.length_range]
  by_cases hi : i < w
  · rw [getD_map_range _ _ _ hi]
    have e : par (downRow w b i &&& s) = (if s.testBit i then 1 else 0) ^^^ (if i + b < w then (if s.testBit (i + b) then 1 else 0) else 0) := by
      unfold downRow
      rw [Nat.and_xor_distrib_right, par_xor, Nat.and_comm, par_bit (by omega)]
      by_cases hb : i + b < w
      · simp only [hb, if_true]
        rw [Nat.and_comm, par_bit (by omega)]
      · simp only [hb, if_false, Nat.zero_and, par_zero]
    rw [e]
    by_cases hb : i + b < w
    · cases s.testBit i <;> cases s.testBit (i + b) <;> simp [hb, hi]
    · rw [hz (i + b) (by omega)]
      cases s.testBit i <;> simp [hb, hi]
  · rw [hz i (by omega), hz (i + b) (by omega)]
    simp [hi]

theorem comb_lt {w : Nat} (rows : List Nat) (h : ∀ r ∈ rows, r < 2 ^ w) (m : Nat) : comb rows m < 2 ^ w := by
  induction rows generalizing m with
  | nil => simp [comb, Nat.two_pow_pos]
  | cons r rows ih =>
    simp only [comb]
    refine Nat.xor_lt_two_pow ?_ (ih (fun a ha => h a (by simp [ha])) _)
    split
    · exact h r (by simp)
    · exact Nat.two_pow_pos w

/-- Rows are told by what they make of single bits. -/
theorem rows_ext {w : Nat} (hw : w ≤ 64) {a b : List Nat} (hl : a.length = b.length) (ha : ∀ r ∈ a, r < 2 ^ w) (hb : ∀ r ∈ b, r < 2 ^ w) (h : ∀ k, k < w → app a (2 ^ k) = app b (2 ^ k)) : a = b := by
  apply List.ext_getElem hl
  intro i h1 h2
  have m1 := ha _ (List.getElem_mem h1)
  have m2 := hb _ (List.getElem_mem h2)
  apply Nat.eq_of_testBit_eq
  intro k
  by_cases hk : k < w
  · have := congrArg (·.testBit i) (h k hk)
    simp only [app_testBit, h1, h2, decide_true, Bool.true_and] at this
    rw [show a.getD i 0 = a[i] by simp [List.getD, h1], show b.getD i 0 = b[i] by simp [List.getD, h2], par_bit (by omega), par_bit (by omega)] at this
    cases hx : a[i].testBit k <;> cases hy : b[i].testBit k <;> simp [hx, hy] at this ⊢
  · rw [Nat.testBit_lt_two_pow (Nat.lt_of_lt_of_le m1 (Nat.pow_le_pow_right (by decide) (by omega))), Nat.testBit_lt_two_pow (Nat.lt_of_lt_of_le m2 (Nat.pow_le_pow_right (by decide) (by omega)))]

end Go.Wd
