/- Combined sequences: a table's normal form, the widths of what it makes. -/
import Derived.Test.YthkdbkjkccogfaaDoorXq
namespace Go.Wd
set_option linter.unusedVariables false
set_option linter.unusedSimpArgs false

/-- One pass of the normal form: bit j. -/
def pass (j : Nat) (f : Nat → Bool) : Nat → Bool := fun x => if x.testBit j = true then f x ^^ f (x ^^^ 2 ^ j) else f x
def nf : Nat → (Nat → Bool) → Nat → Bool
  | 0, f => f
  | j + 1, f => pass j (nf j f)
theorem bit_high {u m j : Nat} (hj : j < m) : (u + 2 ^ m).testBit j = u.testBit j := by
  rw [Nat.add_comm, Nat.testBit_two_pow_add_gt hj]
theorem or_add {u m : Nat} (hu : u < 2 ^ m) : u + 2 ^ m = 2 ^ m ||| u := by
  have := Nat.two_pow_add_eq_or_of_lt hu 1
  rw [Nat.mul_one] at this
  rw [Nat.add_comm, this]
theorem xor_high {u m j : Nat} (hu : u < 2 ^ m) (hj : j < m) : (u + 2 ^ m) ^^^ 2 ^ j = (u ^^^ 2 ^ j) + 2 ^ m := by
  have h1 : 2 ^ j < 2 ^ m := Nat.pow_lt_pow_right (by decide) hj
  have h2 : u ^^^ 2 ^ j < 2 ^ m := Nat.xor_lt_two_pow hu h1
  have e1 := or_add hu
  have e2 := or_add h2
  rw [e1, e2]
  apply Nat.eq_of_testBit_eq
  intro i
  simp only [Nat.testBit_xor, Nat.testBit_or, Nat.testBit_two_pow]
  by_cases h : m = i
  · subst h
    have : u.testBit m = false := Nat.testBit_lt_two_pow hu
    have h3 : ¬ j = m := by omega
    simp [this, h3]
  · simp [h]
theorem nf_low {m : Nat} {f g : Nat → Bool} (h : ∀ x, x < 2 ^ m → f x = g x) : ∀ j, j ≤ m → ∀ x, x < 2 ^ m → nf j f x = nf j g x
  | 0, _, x, hx => h x hx
  | j + 1, hj, x, hx => by
    have h1 : x ^^^ 2 ^ j < 2 ^ m := Nat.xor_lt_two_pow hx (Nat.pow_lt_pow_right (by decide) (by omega))
    simp only [nf, pass]
    rw [nf_low h j (by omega) x hx, nf_low h j (by omega) _ h1]
theorem nf_high {m : Nat} {f : Nat → Bool} : ∀ j, j ≤ m → ∀ x, x < 2 ^ m → nf j f (x + 2 ^ m) = nf j (fun u => f (u + 2 ^ m)) x
  | 0, _, x, hx => rfl
  | j + 1, hj, x, hx => by
    have h1 : x ^^^ 2 ^ j < 2 ^ m := Nat.xor_lt_two_pow hx (Nat.pow_lt_pow_right (by decide) (by omega))
    simp only [nf, pass]
    rw [bit_high (by omega), xor_high hx (by omega), nf_high j (by omega) x hx, nf_high j (by omega) _ h1]
/-- What a normal form makes of bits. -/
def ev : Nat → (Nat → Bool) → (Nat → Bool) → Bool
  | 0, g, _ => g 0
  | n + 1, g, s => ev n g s ^^ (s n && ev n (fun u => g (u + 2 ^ n)) s)
theorem ev_congr {g h : Nat → Bool} {s : Nat → Bool} : ∀ n, (∀ u, u < 2 ^ n → g u = h u) → ev n g s = ev n h s
  | 0, e => e 0 (by decide)
  | n + 1, e => by
    have e2 : 2 ^ (n + 1) = 2 ^ n + 2 ^ n := by rw [Nat.pow_succ]; omega
    rw [ev, ev, ev_congr n (fun u hu => e u (by omega)), ev_congr n (fun u hu => e (u + 2 ^ n) (by omega))]
theorem ev_xor (g h s : Nat → Bool) : ∀ n, ev n (fun u => g u ^^ h u) s = (ev n g s ^^ ev n h s)
  | 0 => rfl
  | n + 1 => by
    rw [ev, ev, ev, ev_xor g h s n]
    have : ev n (fun u => g (u + 2 ^ n) ^^ h (u + 2 ^ n)) s = (ev n (fun u => g (u + 2 ^ n)) s ^^ ev n (fun u => h (u + 2 ^ n)) s) := ev_xor_aux g h s n
    rw [this]
    cases ev n g s <;> cases ev n h s <;> cases s n <;> cases ev n (fun u => g (u + 2 ^ n)) s <;> cases ev n (fun u => h (u + 2 ^ n)) s <;> rfl
where
  ev_xor_aux (g h s : Nat → Bool) (n : Nat) : ev n (fun u => g (u + 2 ^ n) ^^ h (u + 2 ^ n)) s = (ev n (fun u => g (u + 2 ^ n)) s ^^ ev n (fun u => h (u + 2 ^ n)) s) := ev_xor (fun u => g (u + 2 ^ n)) (fun u => h (u + 2 ^ n)) s n
/-- The number that bits make. -/
def num (s : Nat → Bool) : Nat → Nat
  | 0 => 0
  | n + 1 => num s n + (s n).toNat * 2 ^ n
theorem num_lt (s : Nat → Bool) : ∀ n, num s n < 2 ^ n
  | 0 => Nat.one_pos
  | n + 1 => by
    have := num_lt s n
    have e2 : 2 ^ (n + 1) = 2 ^ n + 2 ^ n := by rw [Nat.pow_succ]; omega
    rw [num]
    cases s n <;> simp <;> omega
/-- The table is what its normal form makes. -/
theorem ev_nf (s : Nat → Bool) : ∀ (n : Nat) (f : Nat → Bool), ev n (nf n f) s = f (num s n)
  | 0, f => rfl
  | n + 1, f => by
    have e2 : 2 ^ (n + 1) = 2 ^ n + 2 ^ n := by rw [Nat.pow_succ]; omega
    have hlow : ∀ u, u < 2 ^ n → nf (n + 1) f u = nf n f u := fun u hu => by
      rw [nf, pass, Nat.testBit_lt_two_pow hu]; rfl
    have hhigh : ∀ u, u < 2 ^ n → nf (n + 1) f (u + 2 ^ n) = (nf n (fun u => f (u + 2 ^ n)) u ^^ nf n f u) := fun u hu => by
      have hb : (u + 2 ^ n).testBit n = true := by
        rw [Nat.add_comm, Nat.testBit_two_pow_add_eq, Nat.testBit_lt_two_pow hu]; rfl
      have hx : (u + 2 ^ n) ^^^ 2 ^ n = u := by
        rw [or_add hu]
        apply Nat.eq_of_testBit_eq
        intro i
        simp only [Nat.testBit_xor, Nat.testBit_or, Nat.testBit_two_pow]
        by_cases h : n = i
        · subst h; rw [Nat.testBit_lt_two_pow hu]; simp
        · simp [h]
      rw [nf, pass, if_pos hb, hx, nf_high n (Nat.le_refl n) u hu]
    rw [ev, ev_congr n hlow, ev_congr n hhigh, ev_xor, ev_nf s n f, ev_nf s n (fun u => f (u + 2 ^ n)), num]
    cases hs : s n with
    | false => simp
    | true =>
      rw [show true.toNat * 2 ^ n = 2 ^ n by simp, Bool.true_and]
      cases f (num s n) <;> cases f (num s n + 2 ^ n) <;> rfl
/-- The width that is told. -/
def bd (w : Nat → Nat) : Nat → (Nat → Bool) → Nat
  | 0, g => (g 0).toNat
  | n + 1, g => bd w n g + w n * bd w n (fun u => g (u + 2 ^ n))
theorem ev_dim {w : Nat → Nat} {s : Nat → Nat → Bool} (h : ∀ i, Dim (w i) (s i)) : ∀ (n : Nat) (g : Nat → Bool), Dim (bd w n g) (fun t => ev n g (fun i => s i t))
  | 0, g => by
    cases hg : g 0 with
    | false =>
      have : bd w 0 g = 0 := by rw [bd, hg]; rfl
      rw [this]; exact Dim.none.congr fun t => by rw [ev, hg]
    | true =>
      have : bd w 0 g = 1 := by rw [bd, hg]; rfl
      rw [this]; exact Dim.one.congr fun t => by rw [ev, hg]
  | n + 1, g => by
    have h1 := ev_dim h n g
    have h2 := (h n).mul (ev_dim h n (fun u => g (u + 2 ^ n)))
    exact h1.add h2
/-- A product over the inputs of a monomial. -/
def mono (w : Nat → Nat) (u : Nat) : Nat → Nat
  | 0 => 1
  | n + 1 => if u.testBit n = true then mono w u n * w n else mono w u n
def bsum (w : Nat → Nat) (n : Nat) (g : Nat → Bool) : Nat → Nat
  | 0 => 0
  | u + 1 => bsum w n g u + if g u = true then mono w u n else 0
theorem mono_low {w : Nat → Nat} {u m : Nat} : ∀ n, n ≤ m → mono w (u + 2 ^ m) n = mono w u n
  | 0, _ => rfl
  | n + 1, h => by rw [mono, mono, bit_high (by omega), mono_low n (by omega)]
def bsum2 (w : Nat → Nat) (n : Nat) (g : Nat → Bool) (a : Nat) : Nat → Nat
  | 0 => 0
  | b + 1 => bsum2 w n g a b + if g (a + b) = true then mono w (a + b) n else 0
theorem bsum_add (w : Nat → Nat) (n : Nat) (g : Nat → Bool) (a : Nat) : ∀ b, bsum w n g (a + b) = bsum w n g a + bsum2 w n g a b
  | 0 => rfl
  | b + 1 => by
    show bsum w n g (a + b) + (if g (a + b) = true then mono w (a + b) n else 0) = bsum w n g a + (bsum2 w n g a b + if g (a + b) = true then mono w (a + b) n else 0)
    rw [bsum_add w n g a b, Nat.add_assoc]
theorem bsum_bd (w : Nat → Nat) : ∀ (n : Nat) (g : Nat → Bool), bsum w n g (2 ^ n) = bd w n g
  | 0, g => by
    show bsum w 0 g 1 = _
    simp only [bsum, mono, bd]
    cases g 0 <;> rfl
  | n + 1, g => by
    have e2 : 2 ^ (n + 1) = 2 ^ n + 2 ^ n := by rw [Nat.pow_succ]; omega
    have hl : ∀ b, b ≤ 2 ^ n → bsum w (n + 1) g b = bsum w n g b := by
      intro b
      induction b with
      | zero => intro _; rfl
      | succ b ih =>
        intro hb
        rw [bsum, bsum, ih (by omega)]
        have : mono w b (n + 1) = mono w b n := by rw [mono, Nat.testBit_lt_two_pow (by omega)]; rfl
        rw [this]
    have hh : ∀ b, b ≤ 2 ^ n → bsum2 w (n + 1) g (2 ^ n) b = w n * bsum w n (fun u => g (u + 2 ^ n)) b := by
      intro b
      induction b with
      | zero => intro _; rfl
      | succ b ih =>
        intro hb
        have hbit : (2 ^ n + b).testBit n = true := by
          rw [Nat.testBit_two_pow_add_eq, Nat.testBit_lt_two_pow (by omega)]; rfl
        have hm : mono w (2 ^ n + b) (n + 1) = mono w b n * w n := by
          rw [mono, if_pos hbit, Nat.add_comm, mono_low n (Nat.le_refl n)]
        rw [bsum2, bsum, ih (by omega), hm, Nat.add_comm (2 ^ n) b]
        cases g (b + 2 ^ n) with
        | false => simp
        | true => simp only [if_true]; rw [Nat.mul_add, Nat.mul_comm (mono w b n)]
    rw [e2, bsum_add, hl _ (Nat.le_refl _), hh _ (Nat.le_refl _), bsum_bd w n g, bsum_bd w n _, bd]
/-- A sequence with a recurrence of a width, at least 1, without end. -/
theorem gen_dim {w : Nat} {c s : Nat → Bool} (hw : 0 < w) (h : ∀ n, Gen w c s n) : Dim w s := by
  refine ⟨fun i t => s (t + i), ⟨fun i => decide (i = 0), fun t => ?_⟩, fun i hi => ?_⟩
  · rw [xs_one (f := fun i => s (t + i)) hw]; rfl
  · by_cases h2 : i + 1 < w
    · refine ⟨fun k => decide (k = i + 1), fun t => ?_⟩
      rw [xs_one (f := fun i => s (t + i)) h2]
      show s (t + 1 + i) = s (t + (i + 1))
      congr 1; omega
    · refine ⟨c, fun t => ?_⟩
      have := h (t + w + 1) t (by omega)
      rw [← this]
      show s (t + 1 + i) = s (t + w)
      congr 1; omega
end Go.Wd
