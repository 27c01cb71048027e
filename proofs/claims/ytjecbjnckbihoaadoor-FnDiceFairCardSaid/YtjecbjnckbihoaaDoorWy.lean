/- Words, light: parities, operations on words in the interpreter. Nothing is claimed here; no condition. -/
import Derived.Test.YtjecbjnckbihoaaDoorAbsZ
/- Words: the parity of a number's bits, what rows make of a state, and the rows of two steps. -/
namespace Go.Wd

/-- The parity of the lowest bits, k of them. -/
def parF : Nat → Nat → Nat
  | 0, _ => 0
  | k + 1, n => (n % 2) ^^^ parF k (n / 2)

def par (n : Nat) : Nat := parF 64 n

theorem parF_zero (k : Nat) : parF k 0 = 0 := by
  induction k with
  | zero => rfl
  | succ k ih => simp [parF, ih]

theorem parF_stable {k n : Nat} (h : n < 2 ^ k) : ∀ {K : Nat}, k ≤ K → parF K n = parF k n := by
  induction k generalizing n with
  | zero =>
    intro K _
    have : n = 0 := by simpa using h
    subst this
    exact parF_zero K
  | succ k ih =>
    intro K hK
    obtain ⟨K', rfl⟩ : ∃ K', K = K' + 1 := ⟨K - 1, by omega⟩
    simp only [parF]
    rw [ih (by rw [Nat.pow_succ] at h; omega) (by omega)]

theorem par_eq {k n : Nat} (h : n < 2 ^ k) (hk : k ≤ 64) : par n = parF k n := parF_stable h hk

theorem parF_lt (k n : Nat) : parF k n < 2 := by
  induction k generalizing n with
  | zero => simp [parF]
  | succ k ih =>
    have h1 : n % 2 < 2 ^ 1 := by omega
    have h2 : parF k (n / 2) < 2 ^ 1 := ih (n / 2)
    exact Nat.xor_lt_two_pow h1 h2

theorem par_lt (n : Nat) : par n < 2 := parF_lt 64 n

theorem parF_xor (k a b : Nat) : parF k (a ^^^ b) = parF k a ^^^ parF k b := by
  induction k generalizing a b with
  | zero => simp [parF]
  | succ k ih =>
    simp only [parF]
    rw [show (a ^^^ b) / 2 = a / 2 ^^^ b / 2 from by have := Nat.xor_div_two_pow (a := a) (b := b) (n := 1); simpa using this, ih]
    rw [show (a ^^^ b) % 2 = a % 2 ^^^ b % 2 from by have := Nat.xor_mod_two_pow (a := a) (b := b) (n := 1); simpa using this]
    ac_rfl

theorem par_xor (a b : Nat) : par (a ^^^ b) = par a ^^^ par b := parF_xor 64 a b
theorem par_zero : par 0 = 0 := parF_zero 64

theorem and_mod_two (a b : Nat) : (a &&& b) % 2 = (a % 2) &&& (b % 2) := by
  have := Nat.and_mod_two_pow (a := a) (b := b) (n := 1); simpa using this
theorem and_div_two (a b : Nat) : (a &&& b) / 2 = (a / 2) &&& (b / 2) := by
  have := Nat.and_div_two_pow (a := a) (b := b) (n := 1); simpa using this

/-- What rows make of a state. -/
def app : List Nat → Nat → Nat
  | [], _ => 0
  | r :: rs, s => par (r &&& s) + 2 * app rs s

/-- The sum of the rows that a mask chooses. -/
def comb : List Nat → Nat → Nat
  | [], _ => 0
  | r :: rs, m => (if m % 2 = 1 then r else 0) ^^^ comb rs (m / 2)

/-- The rows of a step by some rows and then one by others. -/
def times (first then_ : List Nat) : List Nat := then_.map (comb first)

theorem app_lt (rs : List Nat) (s : Nat) : app rs s < 2 ^ rs.length := by
  induction rs with
  | nil => simp [app]
  | cons r rs ih =>
    simp only [app, List.length_cons, Nat.pow_succ]
    have := par_lt (r &&& s)
    omega

theorem and_lt_left {a b k : Nat} (h : b < 2 ^ k) : a &&& b < 2 ^ k := Nat.lt_of_le_of_lt Nat.and_le_right h

theorem par_comb (rs : List Nat) (m s : Nat) (hl : rs.length ≤ 64) : par (comb rs m &&& s) = par (m &&& app rs s) := by
  induction rs generalizing m with
  | nil => simp [comb, app]
  | cons r rs ih =>
    have hl' : rs.length ≤ 63 := by simpa using hl
    simp only [comb, app]
    rw [Nat.and_xor_distrib_right, par_xor, ih (m / 2) (by omega)]
    have hA := app_lt rs s
    have hp := par_lt (r &&& s)
    have h1 : (m &&& (par (r &&& s) + 2 * app rs s)) / 2 = m / 2 &&& app rs s := by
      rw [and_div_two]; congr 1; omega
    have h2 : (m &&& (par (r &&& s) + 2 * app rs s)) % 2 = (m % 2) &&& par (r &&& s) := by
      rw [and_mod_two]; congr 1; omega
    have h3 : m &&& (par (r &&& s) + 2 * app rs s) < 2 ^ (rs.length + 1) := and_lt_left (by rw [Nat.pow_succ]; omega)
    rw [par_eq h3 (by omega)]
    simp only [parF]
    rw [h1, h2, ← par_eq (and_lt_left hA) (by omega)]
    congr 1
    have hm : m % 2 = 0 ∨ m % 2 = 1 := by omega
    rcases hm with hm | hm
    · simp [hm, par_zero]
    · simp only [hm, if_true]
      have : par (r &&& s) = 0 ∨ par (r &&& s) = 1 := by omega
      rcases this with h | h <;> simp [h]

theorem app_times (first then_ : List Nat) (s : Nat) (hl : first.length ≤ 64) : app (times first then_) s = app then_ (app first s) := by
  induction then_ with
  | nil => rfl
  | cons r rs ih =>
    simp only [times, List.map_cons, app] at ih ⊢
    rw [ih, par_comb first r s hl]

/-- The machine's count of the bits that are 1. -/
def pc (x : Nat) : Nat :=
  let a := (x / 2 &&& 6148914691236517205) + (x &&& 6148914691236517205)
  let b := (a / 4 &&& 3689348814741910323) + (a &&& 3689348814741910323)
  let c := (b / 16 + b) &&& 1085102592571150095
  let d := c + c / 256
  let e := d + d / 65536
  let f := e + e / 4294967296
  f &&& 127

def pcOk : Nat → Nat → Bool
  | 0, _ => true
  | k + 1, a => ((pc a &&& 1) == parF 17 a) && pcOk k (a + 1)

theorem pcOk_le {k a : Nat} (h : pcOk k a = true) : ∀ i, a ≤ i → i < a + k → pc i &&& 1 = parF 17 i := by
  induction k generalizing a with
  | zero => intro i h1 h2; omega
  | succ k ih =>
    simp only [pcOk, Bool.and_eq_true, beq_iff_eq] at h
    intro i h1 h2
    by_cases e : i = a
    · subst e; exact h.1
    · exact ih h.2 i (by omega) (by omega)

theorem parF_add_mul (k j : Nat) {a b : Nat} (h : a < 2 ^ j) : parF (j + k) (a + 2 ^ j * b) = parF j a ^^^ parF k b := by
  induction j generalizing a with
  | zero =>
    have : a = 0 := by simpa using h
    subst this; simp [parF]
  | succ j ih =>
    have e : j + 1 + k = (j + k) + 1 := by omega
    rw [e]
    simp only [parF]
    have h1 : (a + 2 ^ (j + 1) * b) / 2 = a / 2 + 2 ^ j * b := by
      rw [Nat.pow_succ, Nat.mul_comm (2 ^ j) 2, Nat.mul_assoc]; omega
    have h2 : (a + 2 ^ (j + 1) * b) % 2 = a % 2 := by
      rw [Nat.pow_succ, Nat.mul_comm (2 ^ j) 2, Nat.mul_assoc]; omega
    rw [h1, h2, ih (by rw [Nat.pow_succ] at h; omega)]
    ac_rfl

/-- The rows that change nothing. -/
def units (a : Nat) : Nat → List Nat
  | 0 => []
  | k + 1 => 2 ^ a :: units (a + 1) k

theorem comb_append (a b : List Nat) (m : Nat) : comb (a ++ b) m = comb a m ^^^ comb b (m / 2 ^ a.length) := by
  induction a generalizing m with
  | nil => simp [comb]
  | cons r rs ih =>
    simp only [List.cons_append, comb, ih, List.length_cons]
    rw [show m / 2 / 2 ^ rs.length = m / 2 ^ (rs.length + 1) from by rw [Nat.div_div_eq_div_mul, Nat.pow_succ, Nat.mul_comm]]
    ac_rfl

theorem app_append (a b : List Nat) (s : Nat) : app (a ++ b) s = app a s + 2 ^ a.length * app b s := by
  induction a with
  | nil => simp [app]
  | cons r rs ih =>
    simp only [List.cons_append, app, ih, List.length_cons, Nat.pow_succ]
    rw [Nat.mul_add, ← Nat.mul_assoc, Nat.mul_comm 2 (2 ^ rs.length)]; omega

theorem or_shift {a b k : Nat} (h : a < 2 ^ k) : a ||| b * 2 ^ k = a + 2 ^ k * b := by
  rw [Nat.mul_comm b, Nat.add_comm, Nat.two_pow_add_eq_or_of_lt h, Nat.or_comm]

theorem testBit_eq (n i : Nat) : n.testBit i = decide (n / 2 ^ i % 2 = 1) := by
  rw [Nat.testBit_eq_decide_div_mod_eq]

end Go.Wd
/- Words in the abstract interpreter: operations on bits of numbers that are not negative. -/
namespace Go.Abs
open Go

theorem small_nat (k : IntKind) {a b : Nat} (ha : a ≤ topOf k) (hb : b ≤ topOf k) : smallNat k (a : Int) (b : Int) = some (a, b) := by
  show (bif Nat.ble a (topOf k) && Nat.ble b (topOf k) then some (a, b) else none) = _
  have h1 : Nat.ble a (topOf k) = true := by rw [Nat.ble_eq]; exact ha
  have h2 : Nat.ble b (topOf k) = true := by rw [Nat.ble_eq]; exact hb
  rw [h1, h2]; rfl

theorem w_and (k : IntKind) {a b : Nat} (ha : a ≤ topOf k) (hb : b ≤ topOf k) : bitsA .and k (a : Int) (b : Int) = some (.int k ((a &&& b : Nat) : Int)) := by
  simp only [bitsA, small_nat k ha hb]; rfl
theorem w_or (k : IntKind) {a b : Nat} (ha : a ≤ topOf k) (hb : b ≤ topOf k) : bitsA .or k (a : Int) (b : Int) = some (.int k ((a ||| b : Nat) : Int)) := by
  simp only [bitsA, small_nat k ha hb]; rfl
theorem w_xor (k : IntKind) {a b : Nat} (ha : a ≤ topOf k) (hb : b ≤ topOf k) : bitsA .xor k (a : Int) (b : Int) = some (.int k ((a ^^^ b : Nat) : Int)) := by
  simp only [bitsA, small_nat k ha hb]; rfl
theorem w_shr (a n : Nat) : shrA (a : Int) n = ((a / 2 ^ n : Nat) : Int) := rfl
theorem w_shl (a n : Nat) : shlA (a : Int) n = ((a * 2 ^ n : Nat) : Int) := rfl
theorem w_wrap (k : IntKind) {n : Nat} (h : n ≤ topOf k) : wrapA k (n : Int) = n := by
  rw [wrapA_eq]; exact wrap_small k h

end Go.Abs
/- Words in the abstract interpreter: operations with names that the simplifier leaves alone. -/
namespace Go.Abs
open Go

def pw (b : Nat) : Nat := 2 ^ b
def shrN (a n : Nat) : Nat := a / 2 ^ n
def shlN (a n : Nat) : Nat := a * 2 ^ n
def andN (a b : Nat) : Nat := a &&& b
def orN (a b : Nat) : Nat := a ||| b
def xorN (a b : Nat) : Nat := a ^^^ b
def addN (a b : Nat) : Nat := a + b
def subN (a b : Nat) : Nat := a - b
def mulN (a b : Nat) : Nat := a * b
def divN (a b : Nat) : Nat := a / b
def modN (a b : Nat) : Nat := a % b

theorem sh_r {a b : Nat} (hb : b ≤ 64) : shrA (a : Int) (min b IntKind.i64.bits) = ((shrN a b : Nat) : Int) := by
  rw [Nat.min_eq_left (show b ≤ IntKind.i64.bits from hb)]; rfl
theorem sh_ru {a b : Nat} (hb : b ≤ 64) : shrA (a : Int) (min b IntKind.u64.bits) = ((shrN a b : Nat) : Int) := by
  rw [Nat.min_eq_left (show b ≤ IntKind.u64.bits from hb)]; rfl
theorem sh_l {a b : Nat} (hb : b ≤ 64) (h : a * 2 ^ b ≤ 9223372036854775807) : wrapA .i64 (shlA (a : Int) (min b IntKind.i64.bits)) = ((shlN a b : Nat) : Int) := by
  rw [Nat.min_eq_left (show b ≤ IntKind.i64.bits from hb)]
  exact w_wrap .i64 h
theorem sh_1 {b : Nat} (hb : b < 63) : wrapA .i64 (shlA 1 (min b IntKind.i64.bits)) = ((pw b : Nat) : Int) := by
  have h2 : 2 ^ b ≤ 2 ^ 62 := Nat.pow_le_pow_right (by decide) (by omega)
  have h := sh_l (a := 1) (b := b) (by omega) (by omega)
  rw [show ((1 : Nat) : Int) = 1 from rfl] at h
  rw [h]; show ((1 * 2 ^ b : Nat) : Int) = _; rw [Nat.one_mul]; rfl
theorem n_and {a b : Nat} (ha : a ≤ 9223372036854775807) (hb : b ≤ 9223372036854775807) : bitsA .and .i64 (a : Int) (b : Int) = some (.int .i64 ((andN a b : Nat) : Int)) := w_and .i64 ha hb
theorem n_and1 {a : Nat} (ha : a ≤ 9223372036854775807) : bitsA .and .i64 (a : Int) 1 = some (.int .i64 ((modN a 2 : Nat) : Int)) := by
  have h := w_and .i64 (a := a) (b := 1) ha (by decide)
  rw [Nat.and_one_is_mod] at h
  exact h
theorem n_or {a b : Nat} (ha : a ≤ 9223372036854775807) (hb : b ≤ 9223372036854775807) : bitsA .or .i64 (a : Int) (b : Int) = some (.int .i64 ((orN a b : Nat) : Int)) := w_or .i64 ha hb
theorem n_xor {a b : Nat} (ha : a ≤ 9223372036854775807) (hb : b ≤ 9223372036854775807) : bitsA .xor .i64 (a : Int) (b : Int) = some (.int .i64 ((xorN a b : Nat) : Int)) := w_xor .i64 ha hb
theorem n_wrap {a : Nat} (ha : a ≤ 9223372036854775807) : wrapA .i64 (a : Int) = (a : Int) := w_wrap .i64 ha
theorem n_wrapu {a : Nat} (ha : a ≤ 18446744073709551615) : wrapA .u64 (a : Int) = (a : Int) := w_wrap .u64 ha

def nints (l : List Nat) : List Int := l.map fun (n : Nat) => (n : Int)
theorem nints_length (l : List Nat) : (nints l).length = l.length := by simp [nints]
theorem nints_get {l : List Nat} {i x : Nat} (h : l[i]? = some x) : (nints l)[i]? = some (x : Int) := by simp [nints, h]
theorem nints_append (a b : List Nat) : nints (a ++ b) = nints a ++ nints b := by simp [nints]
theorem nints_one (x : Nat) : nints [x] = [(x : Int)] := rfl
theorem nints_nil : nints [] = [] := rfl
theorem nints_set (l : List Nat) (i x : Nat) : (nints l).set i (x : Int) = nints (l.set i x) := by simp [nints, List.map_set]
theorem nints_inj {a b : List Nat} (h : nints a = nints b) : a = b := by
  induction a generalizing b with
  | nil => cases b with
    | nil => rfl
    | cons y z => simp [nints] at h
  | cons x r ih =>
    cases b with
    | nil => simp [nints] at h
    | cons y z =>
      simp only [nints, List.map_cons, List.cons.injEq] at h
      rw [ih (b := z) (by simpa [nints] using h.2)]
      congr 1; omega
/-- Numbers that are not negative. -/
theorem of_nonneg : ∀ {l : List Int}, (∀ x ∈ l, 0 ≤ x) → ∃ m : List Nat, l = nints m
  | [], _ => ⟨[], rfl⟩
  | x :: r, h => by
    obtain ⟨m, rfl⟩ := of_nonneg (l := r) fun y hy => h y (by simp [hy])
    have := h x (by simp)
    exact ⟨x.toNat :: m, by simp [nints]; omega⟩

end Go.Abs
