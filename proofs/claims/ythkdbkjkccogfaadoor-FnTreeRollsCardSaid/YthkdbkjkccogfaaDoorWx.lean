/- Words: parities, rows on states, linear equations modulo 2, their least solutions and ranks; operations on words in the interpreter. Nothing is claimed here; no condition. -/
import Derived.Test.YthkdbkjkccogfaaDoorAbsZ
/- Words: the parity of a number's bits, what rows make of a state, and the rows of two steps. -/
namespace Go.Wd

/-- The parity of the lowest bits, k of them. -/
def parF : Nat → Nat → Nat
  | 0, _ => 0
  | k + 1, n => (n % 2) ^^^ parF k (n / 2)

def par (n : Nat) : Nat := parF 64 n

theorem parF_zero (k : Nat) : parF k 0 = 0 := by
  induction k with
  | zero => rfl
  | succ k ih => simp [parF, ih]

theorem parF_stable {k n : Nat} (h : n < 2 ^ k) : ∀ {K : Nat}, k ≤ K → parF K n = parF k n := by
  induction k generalizing n with
  | zero =>
    intro K _
    have : n = 0 := by simpa using h
    subst this
    exact parF_zero K
  | succ k ih =>
    intro K hK
    obtain ⟨K', rfl⟩ : ∃ K', K = K' + 1 := ⟨K - 1, by omega⟩
    simp only [parF]
    rw [ih (by rw [Nat.pow_succ] at h; omega) (by omega)]

theorem par_eq {k n : Nat} (h : n < 2 ^ k) (hk : k ≤ 64) : par n = parF k n := parF_stable h hk

theorem parF_lt (k n : Nat) : parF k n < 2 := by
  induction k generalizing n with
  | zero => simp [parF]
  | succ k ih =>
    have h1 : n % 2 < 2 ^ 1 := by omega
    have h2 : parF k (n / 2) < 2 ^ 1 := ih (n / 2)
    exact Nat.xor_lt_two_pow h1 h2

theorem par_lt (n : Nat) : par n < 2 := parF_lt 64 n

theorem parF_xor (k a b : Nat) : parF k (a ^^^ b) = parF k a ^^^ parF k b := by
  induction k generalizing a b with
  | zero => simp [parF]
  | succ k ih =>
    simp only [parF]
    rw [show (a ^^^ b) / 2 = a / 2 ^^^ b / 2 from by have := Nat.xor_div_two_pow (a := a) (b := b) (n := 1); simpa using this, ih]
    rw [show (a ^^^ b) % 2 = a % 2 ^^^ b % 2 from by have := Nat.xor_mod_two_pow (a := a) (b := b) (n := 1); simpa using this]
    ac_rfl

theorem par_xor (a b : Nat) : par (a ^^^ b) = par a ^^^ par b := parF_xor 64 a b
theorem par_zero : par 0 = 0 := parF_zero 64

theorem and_mod_two (a b : Nat) : (a &&& b) % 2 = (a % 2) &&& (b % 2) := by
  have := Nat.and_mod_two_pow (a := a) (b := b) (n := 1); simpa using this
theorem and_div_two (a b : Nat) : (a &&& b) / 2 = (a / 2) &&& (b / 2) := by
  have := Nat.and_div_two_pow (a := a) (b := b) (n := 1); simpa using this

/-- What rows make of a state. -/
def app : List Nat → Nat → Nat
  | [], _ => 0
  | r :: rs, s => par (r &&& s) + 2 * app rs s

/-- The sum of the rows that a mask chooses. -/
def comb : List Nat → Nat → Nat
  | [], _ => 0
  | r :: rs, m => (if m % 2 = 1 then r else 0) ^^^ comb rs (m / 2)

/-- The rows of a step by some rows and then one by others. -/
def times (first then_ : List Nat) : List Nat := then_.map (comb first)

theorem app_lt (rs : List Nat) (s : Nat) : app rs s < 2 ^ rs.length := by
  induction rs with
  | nil => simp [app]
  | cons r rs ih =>
    simp only [app, List.length_cons, Nat.pow_succ]
    have := par_lt (r &&& s)
    omega

theorem and_lt_left {a b k : Nat} (h : b < 2 ^ k) : a &&& b < 2 ^ k := Nat.lt_of_le_of_lt Nat.and_le_right h

theorem par_comb (rs : List Nat) (m s : Nat) (hl : rs.length ≤ 64) : par (comb rs m &&& s) = par (m &&& app rs s) := by
  induction rs generalizing m with
  | nil => simp [comb, app]
  | cons r rs ih =>
    have hl' : rs.length ≤ 63 := by simpa using hl
    simp only [comb, app]
    rw [Nat.and_xor_distrib_right, par_xor, ih (m / 2) (by omega)]
    have hA := app_lt rs s
    have hp := par_lt (r &&& s)
    have h1 : (m &&& (par (r &&& s) + 2 * app rs s)) / 2 = m / 2 &&& app rs s := by
      rw [and_div_two]; congr 1; omega
    have h2 : (m &&& (par (r &&& s) + 2 * app rs s)) % 2 = (m % 2) &&& par (r &&& s) := by
      rw [and_mod_two]; congr 1; omega
    have h3 : m &&& (par (r &&& s) + 2 * app rs s) < 2 ^ (rs.length + 1) := and_lt_left (by rw [Nat.pow_succ]; omega)
    rw [par_eq h3 (by omega)]
    simp only [parF]
    rw [h1, h2, ← par_eq (and_lt_left hA) (by omega)]
    congr 1
    have hm : m % 2 = 0 ∨ m % 2 = 1 := by omega
    rcases hm with hm | hm
    · simp [hm, par_zero]
    · simp only [hm, if_true]
      have : par (r &&& s) = 0 ∨ par (r &&& s) = 1 := by omega
      rcases this with h | h <;> simp [h]

theorem app_times (first then_ : List Nat) (s : Nat) (hl : first.length ≤ 64) : app (times first then_) s = app then_ (app first s) := by
  induction then_ with
  | nil => rfl
  | cons r rs ih =>
    simp only [times, List.map_cons, app] at ih ⊢
    rw [ih, par_comb first r s hl]

/-- The machine's count of the bits that are 1. -/
def pc (x : Nat) : Nat :=
  let a := (x / 2 &&& 6148914691236517205) + (x &&& 6148914691236517205)
  let b := (a / 4 &&& 3689348814741910323) + (a &&& 3689348814741910323)
  let c := (b / 16 + b) &&& 1085102592571150095
  let d := c + c / 256
  let e := d + d / 65536
  let f := e + e / 4294967296
  f &&& 127

def pcOk : Nat → Nat → Bool
  | 0, _ => true
  | k + 1, a => ((pc a &&& 1) == parF 17 a) && pcOk k (a + 1)

theorem pcOk_le {k a : Nat} (h : pcOk k a = true) : ∀ i, a ≤ i → i < a + k → pc i &&& 1 = parF 17 i := by
  induction k generalizing a with
  | zero => intro i h1 h2; omega
  | succ k ih =>
    simp only [pcOk, Bool.and_eq_true, beq_iff_eq] at h
    intro i h1 h2
    by_cases e : i = a
    · subst e; exact h.1
    · exact ih h.2 i (by omega) (by omega)

theorem parF_add_mul (k j : Nat) {a b : Nat} (h : a < 2 ^ j) : parF (j + k) (a + 2 ^ j * b) = parF j a ^^^ parF k b := by
  induction j generalizing a with
  | zero =>
    have : a = 0 := by simpa using h
    subst this; simp [parF]
  | succ j ih =>
    have e : j + 1 + k = (j + k) + 1 := by omega
    rw [e]
    simp only [parF]
    have h1 : (a + 2 ^ (j + 1) * b) / 2 = a / 2 + 2 ^ j * b := by
      rw [Nat.pow_succ, Nat.mul_comm (2 ^ j) 2, Nat.mul_assoc]; omega
    have h2 : (a + 2 ^ (j + 1) * b) % 2 = a % 2 := by
      rw [Nat.pow_succ, Nat.mul_comm (2 ^ j) 2, Nat.mul_assoc]; omega
    rw [h1, h2, ih (by rw [Nat.pow_succ] at h; omega)]
    ac_rfl

/-- The rows that change nothing. -/
def units (a : Nat) : Nat → List Nat
  | 0 => []
  | k + 1 => 2 ^ a :: units (a + 1) k

theorem comb_append (a b : List Nat) (m : Nat) : comb (a ++ b) m = comb a m ^^^ comb b (m / 2 ^ a.length) := by
  induction a generalizing m with
  | nil => simp [comb]
  | cons r rs ih =>
    simp only [List.cons_append, comb, ih, List.length_cons]
    rw [show m / 2 / 2 ^ rs.length = m / 2 ^ (rs.length + 1) from by rw [Nat.div_div_eq_div_mul, Nat.pow_succ, Nat.mul_comm]]
    ac_rfl

theorem app_append (a b : List Nat) (s : Nat) : app (a ++ b) s = app a s + 2 ^ a.length * app b s := by
  induction a with
  | nil => simp [app]
  | cons r rs ih =>
    simp only [List.cons_append, app, ih, List.length_cons, Nat.pow_succ]
    rw [Nat.mul_add, ← Nat.mul_assoc, Nat.mul_comm 2 (2 ^ rs.length)]; omega

theorem or_shift {a b k : Nat} (h : a < 2 ^ k) : a ||| b * 2 ^ k = a + 2 ^ k * b := by
  rw [Nat.mul_comm b, Nat.add_comm, Nat.two_pow_add_eq_or_of_lt h, Nat.or_comm]

theorem testBit_eq (n i : Nat) : n.testBit i = decide (n / 2 ^ i % 2 = 1) := by
  rw [Nat.testBit_eq_decide_div_mod_eq]

end Go.Wd
/- Words: the machine's count of the bits that are 1 has the parity of the bits, for words of 16 bits. -/
namespace Go.Wd

def ba (x : Nat) : Nat := (x / 2 &&& 85) + (x &&& 85)
def bb (x : Nat) : Nat := (ba x / 4 &&& 51) + (ba x &&& 51)
def bc (x : Nat) : Nat := (bb x / 16 + bb x) &&& 15
def byteOk (x : Nat) : Bool := decide (ba x < 256) && decide (bb x ≤ 68) && decide (bb x % 16 ≤ 4) && decide (bc x ≤ 8) && (bc x % 2 == parF 8 x)
theorem byte_all : ∀ x, x < 256 → byteOk x = true := by decide +kernel
theorem byte_spec {x : Nat} (h : x < 256) : ba x < 256 ∧ bb x ≤ 68 ∧ bb x % 16 ≤ 4 ∧ bc x ≤ 8 ∧ bc x % 2 = parF 8 x := by
  have := byte_all x h
  simp only [byteOk, Bool.and_eq_true, decide_eq_true_eq, beq_iff_eq] at this
  exact ⟨this.1.1.1.1, this.1.1.1.2, this.1.1.2, this.1.2, this.2⟩

theorem and_byte {x m : Nat} (h : x < 256) : x &&& m = x &&& (m % 256) := by
  have h1 : x &&& m < 256 := Nat.lt_of_le_of_lt Nat.and_le_left h
  have h2 := Nat.and_mod_two_pow (a := x) (b := m) (n := 8)
  rw [show (2 : Nat) ^ 8 = 256 from rfl, Nat.mod_eq_of_lt h1, Nat.mod_eq_of_lt h] at h2
  exact h2
theorem and_low {x m : Nat} (k : Nat) (h : m < 2 ^ k) : x &&& m = (x % 2 ^ k) &&& m := by
  have h1 : x &&& m < 2 ^ k := Nat.lt_of_le_of_lt Nat.and_le_right h
  have h2 := Nat.and_mod_two_pow (a := x) (b := m) (n := k)
  rw [Nat.mod_eq_of_lt h1, Nat.mod_eq_of_lt h] at h2
  exact h2
theorem and_split (x m : Nat) : x &&& m = (x % 256 &&& m % 256) + 256 * (x / 256 &&& m / 256) := by
  have h1 := Nat.and_mod_two_pow (a := x) (b := m) (n := 8)
  have h2 := Nat.and_div_two_pow (a := x) (b := m) (n := 8)
  rw [show (2 : Nat) ^ 8 = 256 from rfl] at h1 h2
  have := Nat.mod_add_div (x &&& m) 256
  omega

theorem pc_bytes {lo hi : Nat} (h1 : lo < 256) (h2 : hi < 256) : pc (lo + 256 * hi) = bc lo + bc hi := by
  obtain ⟨a1, b1, n1, c1, _⟩ := byte_spec h1
  obtain ⟨a2, b2, n2, c2, _⟩ := byte_spec h2
  have ea : ((lo + 256 * hi) / 2 &&& 6148914691236517205) + ((lo + 256 * hi) &&& 6148914691236517205) = ba lo + 256 * ba hi := by
    rw [and_split ((lo + 256 * hi) / 2), and_split (lo + 256 * hi)]
    rw [show (lo + 256 * hi) % 256 = lo by omega, show (lo + 256 * hi) / 256 = hi by omega, show (lo + 256 * hi) / 2 / 256 = hi / 2 by omega]
    rw [show 6148914691236517205 % 256 = 85 from rfl, show 6148914691236517205 / 256 = 24019198012642645 from rfl]
    rw [and_low (x := (lo + 256 * hi) / 2 % 256) 7 (by decide : 85 < 2 ^ 7), show (lo + 256 * hi) / 2 % 256 % 2 ^ 7 = lo / 2 by omega]
    rw [and_byte (x := hi / 2) (by omega), and_byte (x := hi) (by omega), show 24019198012642645 % 256 = 85 from rfl]
    simp only [ba]; omega
  have eb : ((ba lo + 256 * ba hi) / 4 &&& 3689348814741910323) + ((ba lo + 256 * ba hi) &&& 3689348814741910323) = bb lo + 256 * bb hi := by
    rw [and_split ((ba lo + 256 * ba hi) / 4), and_split (ba lo + 256 * ba hi)]
    rw [show (ba lo + 256 * ba hi) % 256 = ba lo by omega, show (ba lo + 256 * ba hi) / 256 = ba hi by omega, show (ba lo + 256 * ba hi) / 4 / 256 = ba hi / 4 by omega]
    rw [show 3689348814741910323 % 256 = 51 from rfl, show 3689348814741910323 / 256 = 14411518807585587 from rfl]
    rw [and_low (x := (ba lo + 256 * ba hi) / 4 % 256) 6 (by decide : 51 < 2 ^ 6), show (ba lo + 256 * ba hi) / 4 % 256 % 2 ^ 6 = ba lo / 4 by omega]
    rw [and_byte (x := ba hi / 4) (by omega), and_byte (x := ba hi) (by omega), show 14411518807585587 % 256 = 51 from rfl]
    simp only [bb]; omega
  have ec : (((bb lo + 256 * bb hi) / 16 + (bb lo + 256 * bb hi)) &&& 1085102592571150095) = bc lo + 256 * bc hi := by
    rw [and_split]
    rw [show ((bb lo + 256 * bb hi) / 16 + (bb lo + 256 * bb hi)) / 256 = bb hi / 16 + bb hi by omega]
    rw [show 1085102592571150095 % 256 = 15 from rfl, show 1085102592571150095 / 256 = 4238682002231055 from rfl]
    rw [and_low (x := ((bb lo + 256 * bb hi) / 16 + (bb lo + 256 * bb hi)) % 256) 4 (by decide : 15 < 2 ^ 4), and_byte (x := bb hi / 16 + bb hi) (by omega), show 4238682002231055 % 256 = 15 from rfl]
    rw [show ((bb lo + 256 * bb hi) / 16 + (bb lo + 256 * bb hi)) % 256 % 2 ^ 4 = (bb lo / 16 + bb lo) % 2 ^ 4 by omega, ← and_low (x := bb lo / 16 + bb lo) 4 (by decide : 15 < 2 ^ 4)]
    rfl
  simp only [pc]
  rw [ea, eb, ec]
  rw [show (bc lo + 256 * bc hi) / 256 = bc hi by omega, show (bc lo + 256 * bc hi + bc hi) / 65536 = 0 by omega, Nat.add_zero, show (bc lo + 256 * bc hi + bc hi) / 4294967296 = 0 by omega, Nat.add_zero]
  rw [show (127 : Nat) = 2 ^ 7 - 1 from rfl, Nat.and_two_pow_sub_one_eq_mod]
  omega

theorem pc_par {n : Nat} (h : n < 65536) : pc n &&& 1 = par n := by
  obtain ⟨lo, hi, h1, h2, rfl⟩ : ∃ lo hi, lo < 256 ∧ hi < 256 ∧ n = lo + 256 * hi := ⟨n % 256, n / 256, by omega, by omega, by omega⟩
  rw [pc_bytes h1 h2, Nat.and_one_is_mod, par_eq (k := 16) (by omega) (by omega), show (16 : Nat) = 8 + 8 from rfl, show (256 : Nat) = 2 ^ 8 from rfl, parF_add_mul 8 8 (by omega)]
  have p1 := (byte_spec h1).2.2.2.2
  have p2 := (byte_spec h2).2.2.2.2
  have q1 := parF_lt 8 lo
  have q2 := parF_lt 8 hi
  rw [← p1] at q1 ⊢
  rw [← p2] at q2 ⊢
  rw [Nat.add_mod]
  generalize bc lo % 2 = x at *
  generalize bc hi % 2 = y at *
  have hx : x = 0 ∨ x = 1 := by omega
  have hy : y = 0 ∨ y = 1 := by omega
  rcases hx with rfl | rfl <;> rcases hy with rfl | rfl <;> rfl

end Go.Wd
/- Linear equations modulo 2: masks of unknowns with the bit at the width for the right side. -/
namespace Go.Wd

theorem par_two_pow {c : Nat} (h : c < 64) : par (2 ^ c) = 1 := by
  have h0 : ∀ c k, c < k → parF k (2 ^ c) = 1 := by
    intro c
    induction c with
    | zero => intro k hk; obtain ⟨k', rfl⟩ : ∃ k', k = k' + 1 := ⟨k - 1, by omega⟩; simp [parF, parF_zero]
    | succ c ih =>
      intro k hk; obtain ⟨k', rfl⟩ : ∃ k', k = k' + 1 := ⟨k - 1, by omega⟩
      simp only [parF]
      rw [show 2 ^ (c + 1) / 2 = 2 ^ c from by rw [Nat.pow_succ]; omega, show 2 ^ (c + 1) % 2 = 0 from by rw [Nat.pow_succ]; omega, ih k' (by omega)]
      rfl
  exact h0 c 64 h

theorem and_two_pow (e c : Nat) : e &&& 2 ^ c = if e.testBit c then 2 ^ c else 0 := by
  apply Nat.eq_of_testBit_eq
  intro i
  rw [Nat.testBit_and, Nat.testBit_two_pow]
  by_cases h : c = i
  · subst h; cases e.testBit c <;> simp
  · cases e.testBit c <;> simp [h]

theorem par_flip {c : Nat} (h : c < 64) (e X : Nat) : par (e &&& (X ^^^ 2 ^ c)) = par (e &&& X) ^^^ (if e.testBit c then 1 else 0) := by
  rw [Nat.and_xor_distrib_left, par_xor, and_two_pow]
  cases e.testBit c
  · simp [par_zero]
  · simp [par_two_pow h]

theorem testBit_flip (X c i : Nat) : (X ^^^ 2 ^ c).testBit i = (X.testBit i ^^ decide (c = i)) := by
  rw [Nat.testBit_xor, Nat.testBit_two_pow]

/-- A number with the bit at the width fulfils equations. -/
def Sol (w : Nat) (es : List Nat) (X : Nat) : Prop := X < 2 ^ (w + 1) ∧ X.testBit w = true ∧ ∀ e ∈ es, par (e &&& X) = 0

theorem flip_lt {w c X : Nat} (hc : c < w) (h : X < 2 ^ (w + 1)) : X ^^^ 2 ^ c < 2 ^ (w + 1) :=
  Nat.xor_lt_two_pow h (Nat.pow_lt_pow_right (by decide) (by omega))

/-- One column is cleared: the first equation with it goes, and is added to the others with it. -/
def elim (c : Nat) (es : List Nat) : List Nat :=
  match es.findIdx? (fun e => e.testBit c) with
  | none => es
  | some i => (es.eraseIdx i).map fun e => if e.testBit c then e ^^^ es.getD i 0 else e

def solves : Nat → Nat → List Nat → Bool
  | 0, _, es => es.all (· == 0)
  | k + 1, c, es => solves k (c + 1) (elim c es)

theorem mem_eraseIdx_or {α : Type} {l : List α} {i : Nat} {x : α} (h : x ∈ l) (hi : i < l.length) : x ∈ l.eraseIdx i ∨ l[i] = x := by
  induction l generalizing i with
  | nil => simp at h
  | cons a l ih =>
    cases i with
    | zero =>
      rcases List.mem_cons.1 h with h | h
      · right; simp [h]
      · left; simpa using h
    | succ i =>
      rcases List.mem_cons.1 h with h | h
      · left; simp [h]
      · have := ih h (by simpa using hi)
        rcases this with h' | h'
        · left; simp [h']
        · right; simpa using h'

theorem elim_spec {w c : Nat} (hc : c < w) (hw : w < 64) {es : List Nat} (hb : ∀ e ∈ es, e < 2 ^ (w + 1) ∧ ∀ i, i < c → e.testBit i = false) :
    (∀ e ∈ elim c es, e < 2 ^ (w + 1) ∧ ∀ i, i < c + 1 → e.testBit i = false) ∧ ((∃ X, Sol w es X) ↔ ∃ X, Sol w (elim c es) X) := by
  unfold elim
  cases hf : es.findIdx? (fun e => e.testBit c) with
  | none =>
    rw [List.findIdx?_eq_none_iff] at hf
    refine ⟨?_, Iff.rfl⟩
    intro e he
    refine ⟨(hb e he).1, ?_⟩
    intro i hi
    by_cases h : i = c
    · subst h; simpa using hf e he
    · exact (hb e he).2 i (by omega)
  | some k =>
    rw [List.findIdx?_eq_some_iff_getElem] at hf
    obtain ⟨hk, hp, _⟩ := hf
    have hpm : es[k] ∈ es := List.getElem_mem hk
    have hg : es.getD k 0 = es[k] := by simp [List.getD, hk]
    simp only [hg]
    have hE : ∀ e ∈ (es.eraseIdx k).map (fun e => if e.testBit c then e ^^^ es[k] else e), ∃ e' ∈ es, e = if e'.testBit c then e' ^^^ es[k] else e' := by
      intro e he
      obtain ⟨e', h1, h2⟩ := List.mem_map.1 he
      exact ⟨e', List.mem_of_mem_eraseIdx h1, h2.symm⟩
    have hlow : ∀ e ∈ (es.eraseIdx k).map (fun e => if e.testBit c then e ^^^ es[k] else e), e < 2 ^ (w + 1) ∧ ∀ i, i < c + 1 → e.testBit i = false := by
      intro e he
      obtain ⟨e', h1, h2⟩ := hE e he
      obtain ⟨a1, a2⟩ := hb e' h1
      obtain ⟨b1, b2⟩ := hb _ hpm
      cases ht : e'.testBit c with
      | false =>
        rw [ht] at h2; simp at h2; subst h2
        refine ⟨a1, ?_⟩
        intro i hi
        by_cases h : i = c
        · subst h; exact ht
        · exact a2 i (by omega)
      | true =>
        rw [ht] at h2; simp at h2; subst h2
        refine ⟨Nat.xor_lt_two_pow a1 b1, ?_⟩
        intro i hi
        rw [Nat.testBit_xor]
        by_cases h : i = c
        · subst h; simp [ht, hp]
        · rw [a2 i (by omega), b2 i (by omega)]; rfl
    refine ⟨hlow, ?_, ?_⟩
    · rintro ⟨X, x1, x2, x3⟩
      refine ⟨X, x1, x2, ?_⟩
      intro e he
      obtain ⟨e', h1, h2⟩ := hE e he
      cases ht : e'.testBit c with
      | false => rw [ht] at h2; simp at h2; subst h2; exact x3 _ h1
      | true =>
        rw [ht] at h2; simp at h2; subst h2
        rw [Nat.and_xor_distrib_right, par_xor, x3 _ h1, x3 _ hpm]; rfl
    · rintro ⟨X, x1, x2, x3⟩
      -- the equation that went is fulfilled by the choice of its unknown
      have key : ∃ Y, Y < 2 ^ (w + 1) ∧ Y.testBit w = true ∧ par (es[k] &&& Y) = 0 ∧ ∀ e ∈ (es.eraseIdx k).map (fun e => if e.testBit c then e ^^^ es[k] else e), par (e &&& Y) = 0 := by
        have hp2 := par_lt (es[k] &&& X)
        by_cases h0 : par (es[k] &&& X) = 0
        · exact ⟨X, x1, x2, h0, x3⟩
        · refine ⟨X ^^^ 2 ^ c, flip_lt hc x1, ?_, ?_, ?_⟩
          · rw [testBit_flip, x2]; simp; omega
          · rw [par_flip (by omega)]
            have : par (es[k] &&& X) = 1 := by omega
            rw [this, hp]; rfl
          · intro e he
            rw [par_flip (by omega), x3 e he, (hlow e he).2 c (by omega)]; rfl
      obtain ⟨Y, y1, y2, y3, y4⟩ := key
      refine ⟨Y, y1, y2, ?_⟩
      intro e he
      rcases mem_eraseIdx_or he hk with h | h
      · have := y4 _ (List.mem_map.2 ⟨e, h, rfl⟩)
        cases ht : e.testBit c with
        | false => rw [ht] at this; simpa using this
        | true =>
          rw [ht] at this; simp only [if_true] at this
          rw [Nat.and_xor_distrib_right, par_xor, y3] at this; simpa using this
      · rw [← h]; exact y3

theorem solves_iff {w : Nat} (hw : w < 64) : ∀ (k c : Nat), c + k = w → ∀ (es : List Nat), (∀ e ∈ es, e < 2 ^ (w + 1) ∧ ∀ i, i < c → e.testBit i = false) → (solves k c es = true ↔ ∃ X, Sol w es X) := by
  intro k
  induction k with
  | zero =>
    intro c hck es hb
    simp only [solves, List.all_eq_true, beq_iff_eq]
    have hc : c = w := by omega
    subst hc
    constructor
    · intro h
      refine ⟨2 ^ c, Nat.pow_lt_pow_right (by decide) (by omega), Nat.testBit_two_pow_self, ?_⟩
      intro e he
      rw [h e he]; simp [par_zero]
    · rintro ⟨X, x1, x2, x3⟩ e he
      have h3 := x3 e he
      obtain ⟨b1, b2⟩ := hb e he
      have hee : e = if e.testBit c then 2 ^ c else 0 := by
        apply Nat.eq_of_testBit_eq
        intro i
        by_cases h1 : i < c
        · rw [b2 i h1]; cases e.testBit c <;> simp [Nat.testBit_two_pow]; omega
        · by_cases h2 : i = c
          · subst h2; cases h : e.testBit i <;> simp
          · have : e.testBit i = false := Nat.testBit_lt_two_pow (Nat.lt_of_lt_of_le b1 (Nat.pow_le_pow_right (by decide) (by omega)))
            rw [this]; cases e.testBit c <;> simp [Nat.testBit_two_pow]; omega
      cases ht : e.testBit c with
      | false => rw [ht] at hee; simpa using hee
      | true =>
        exfalso
        rw [ht] at hee; simp only [if_true] at hee
        rw [hee, Nat.and_comm, and_two_pow, x2] at h3
        simp only [if_true] at h3
        rw [par_two_pow hw] at h3; omega
  | succ k ih =>
    intro c hck es hb
    obtain ⟨h1, h2⟩ := elim_spec (w := w) (c := c) (by omega) hw hb
    simp only [solves]
    rw [h2]
    exact ih (c + 1) (by omega) _ h1

end Go.Wd
/- Linear equations modulo 2 with different least unknowns: solutions, the least one, and how many unknowns are free. -/
namespace Go.Wd

/-- Equations with their least unknowns, which differ. -/
structure Low (w : Nat) (F : List (Nat × Nat)) : Prop where
  ok : ∀ p ∈ F, p.1 < 2 ^ (w + 1) ∧ p.2 < w ∧ p.1.testBit p.2 = true ∧ ∀ i, i < p.2 → p.1.testBit i = false
  dis : (F.map Prod.snd).Nodup

theorem low_inj {F : List (Nat × Nat)} (h : (F.map Prod.snd).Nodup) : ∀ p ∈ F, ∀ q ∈ F, p.2 = q.2 → p = q := by
  induction F with
  | nil => intro p hp; simp at hp
  | cons a F ih =>
    simp only [List.map_cons, List.nodup_cons] at h
    intro p hp q hq e
    rcases List.mem_cons.1 hp with hp | hp <;> rcases List.mem_cons.1 hq with hq | hq
    · rw [hp, hq]
    · exact absurd (List.mem_map.2 ⟨q, hq, by rw [← e, hp]⟩) h.1
    · exact absurd (List.mem_map.2 ⟨p, hp, by rw [e, hq]⟩) h.1
    · exact ih h.2 p hp q hq e

theorem low_exists {w : Nat} (hw : w < 64) {F : List (Nat × Nat)} (h : Low w F) {Z : Nat} (z1 : Z < 2 ^ (w + 1)) (z2 : Z.testBit w = true) :
    ∃ X, Sol w (F.map Prod.fst) X ∧ ∀ i, i ∉ F.map Prod.snd → X.testBit i = Z.testBit i := by
  have key : ∀ j, j ≤ w → ∃ X, X < 2 ^ (w + 1) ∧ X.testBit w = true ∧ (∀ i, i ∉ F.map Prod.snd → X.testBit i = Z.testBit i) ∧ ∀ p ∈ F, w - j ≤ p.2 → par (p.1 &&& X) = 0 := by
    intro j
    induction j with
    | zero =>
      intro _
      refine ⟨Z, z1, z2, fun _ _ => rfl, ?_⟩
      intro p hp hpl
      have := (h.ok p hp).2.1
      omega
    | succ j ih =>
      intro hj
      obtain ⟨X, x1, x2, x3, x4⟩ := ih (by omega)
      by_cases hc : ∃ p ∈ F, p.2 = w - (j + 1) ∧ par (p.1 &&& X) ≠ 0
      · obtain ⟨p, hp, e, hne⟩ := hc
        have hlt := par_lt (p.1 &&& X)
        refine ⟨X ^^^ 2 ^ p.2, flip_lt (h.ok p hp).2.1 x1, ?_, ?_, ?_⟩
        · rw [testBit_flip, x2]; have := (h.ok p hp).2.1; simp; omega
        · intro i hi
          rw [testBit_flip, x3 i hi]
          have : p.2 ≠ i := by rintro rfl; exact hi (List.mem_map.2 ⟨p, hp, rfl⟩)
          simp [this]
        · intro q hq hql
          rw [par_flip (by have := (h.ok p hp).2.1; omega)]
          by_cases hqe : q.2 = p.2
          · have := low_inj h.dis q hq p hp hqe
            subst this
            rw [(h.ok _ hq).2.2.1]
            have : par (q.1 &&& X) = 1 := by omega
            rw [this]; rfl
          · rw [(h.ok q hq).2.2.2 p.2 (by omega), x4 q hq (by omega)]; rfl
      · refine ⟨X, x1, x2, x3, ?_⟩
        intro p hp hpl
        by_cases e : p.2 = w - (j + 1)
        · by_cases h0 : par (p.1 &&& X) = 0
          · exact h0
          · exact absurd ⟨p, hp, e, h0⟩ hc
        · exact x4 p hp (by omega)
  obtain ⟨X, x1, x2, x3, x4⟩ := key w (Nat.le_refl _)
  refine ⟨X, ⟨x1, x2, ?_⟩, x3⟩
  intro e he
  obtain ⟨p, hp, rfl⟩ := List.mem_map.1 he
  exact x4 p hp (by omega)

/-- Solutions with the same higher bits have the same bit at a least unknown. -/
theorem low_unique {w : Nat} (hw : w < 64) {F : List (Nat × Nat)} (h : Low w F) {X Y : Nat} (hX : Sol w (F.map Prod.fst) X) (hY : Sol w (F.map Prod.fst) Y)
    {c : Nat} (hc : c ∈ F.map Prod.snd) (hi : ∀ i, c < i → X.testBit i = Y.testBit i) : X.testBit c = Y.testBit c := by
  obtain ⟨p, hp, rfl⟩ := List.mem_map.1 hc
  obtain ⟨p1, p2, p3, p4⟩ := h.ok p hp
  have hx := hX.2.2 p.1 (List.mem_map.2 ⟨p, hp, rfl⟩)
  have hy := hY.2.2 p.1 (List.mem_map.2 ⟨p, hp, rfl⟩)
  have e : p.1 &&& (X ^^^ Y) = if (X ^^^ Y).testBit p.2 then 2 ^ p.2 else 0 := by
    apply Nat.eq_of_testBit_eq
    intro i
    rw [Nat.testBit_and]
    by_cases h1 : i < p.2
    · rw [p4 i h1]; cases (X ^^^ Y).testBit p.2 <;> simp [Nat.testBit_two_pow]; omega
    · by_cases h2 : i = p.2
      · subst h2; rw [p3]; cases (X ^^^ Y).testBit p.2 <;> simp
      · have : (X ^^^ Y).testBit i = false := by rw [Nat.testBit_xor, hi i (by omega)]; simp
        rw [this]; cases (X ^^^ Y).testBit p.2 <;> simp [Nat.testBit_two_pow]; omega
  have hs : par (p.1 &&& (X ^^^ Y)) = 0 := by rw [Nat.and_xor_distrib_left, par_xor, hx, hy]; rfl
  rw [e] at hs
  have hb : (X ^^^ Y).testBit p.2 = false := by
    cases hb : (X ^^^ Y).testBit p.2 with
    | false => rfl
    | true => rw [hb] at hs; simp only [if_true] at hs; rw [par_two_pow (by omega)] at hs; omega
  rw [Nat.testBit_xor] at hb
  cases hx : X.testBit p.2 <;> cases hy : Y.testBit p.2 <;> simp [hx, hy] at hb ⊢

/-- Numbers that agree on the bits that are no least unknown, and are solutions, agree from a bit on. -/
theorem low_agree {w : Nat} (hw : w < 64) {F : List (Nat × Nat)} (h : Low w F) {X Y : Nat} (hX : Sol w (F.map Prod.fst) X) (hY : Sol w (F.map Prod.fst) Y)
    {k : Nat} (hi : ∀ i, k ≤ i → i ∉ F.map Prod.snd → X.testBit i = Y.testBit i) : ∀ i, k ≤ i → X.testBit i = Y.testBit i := by
  have hbig : ∀ i, w < i → X.testBit i = Y.testBit i := by
    intro i hw
    rw [Nat.testBit_lt_two_pow (Nat.lt_of_lt_of_le hX.1 (Nat.pow_le_pow_right (by decide) hw)), Nat.testBit_lt_two_pow (Nat.lt_of_lt_of_le hY.1 (Nat.pow_le_pow_right (by decide) hw))]
  have key : ∀ j i, w + 1 - j ≤ i → k ≤ i → X.testBit i = Y.testBit i := by
    intro j
    induction j with
    | zero => intro i h1 _; exact hbig i (by omega)
    | succ j ih =>
      intro i h1 h2
      by_cases hm : i ∈ F.map Prod.snd
      · by_cases hl : w + 1 - j ≤ i
        · exact ih i hl h2
        · exact low_unique hw h hX hY hm fun i' hi' => ih i' (by omega) (by omega)
      · exact hi i h2 hm
  exact fun i hk => key (w + 1) i (by omega) hk

theorem top_diff : ∀ (k : Nat) {X Y : Nat}, X < 2 ^ k → Y < 2 ^ k → X ≠ Y → ∃ i, i < k ∧ X.testBit i ≠ Y.testBit i ∧ ∀ j, i < j → X.testBit j = Y.testBit j := by
  intro k
  induction k with
  | zero => intro X Y hX hY hne; exfalso; simp at hX hY; omega
  | succ k ih =>
    intro X Y hX hY hne
    have hb : ∀ j, k < j → X.testBit j = Y.testBit j := by
      intro j hj
      rw [Nat.testBit_lt_two_pow (Nat.lt_of_lt_of_le hX (Nat.pow_le_pow_right (by decide) hj)), Nat.testBit_lt_two_pow (Nat.lt_of_lt_of_le hY (Nat.pow_le_pow_right (by decide) hj))]
    by_cases h : X.testBit k = Y.testBit k
    · have hne' : X % 2 ^ k ≠ Y % 2 ^ k := by
        intro e
        apply hne
        apply Nat.eq_of_testBit_eq
        intro i
        by_cases h1 : i < k
        · have := congrArg (·.testBit i) e
          simpa [Nat.testBit_mod_two_pow, h1] using this
        · by_cases h2 : i = k
          · subst h2; exact h
          · exact hb i (by omega)
      obtain ⟨i, h1, h2, h3⟩ := ih (Nat.mod_lt _ (Nat.two_pow_pos k)) (Nat.mod_lt _ (Nat.two_pow_pos k)) hne'
      refine ⟨i, by omega, ?_, ?_⟩
      · simpa [Nat.testBit_mod_two_pow, h1] using h2
      · intro j hj
        by_cases h4 : j < k
        · have := h3 j hj
          simpa [Nat.testBit_mod_two_pow, h4] using this
        · by_cases h5 : j = k
          · subst h5; exact h
          · exact hb j (by omega)
    · exact ⟨k, by omega, h, hb⟩

theorem lt_of_top {X Y i : Nat} (hx : X.testBit i = false) (hy : Y.testBit i = true) (h : ∀ j, i < j → X.testBit j = Y.testBit j) : X < Y := by
  have e : X / 2 ^ (i + 1) = Y / 2 ^ (i + 1) := by
    apply Nat.eq_of_testBit_eq
    intro j
    rw [Nat.testBit_div_two_pow, Nat.testBit_div_two_pow]
    exact h _ (by omega)
  rw [testBit_eq] at hx hy
  simp only [decide_eq_false_iff_not, decide_eq_true_eq] at hx hy
  have hx2 : X / 2 ^ i / 2 = X / 2 ^ (i + 1) := by rw [Nat.div_div_eq_div_mul, Nat.pow_succ]
  have hy2 : Y / 2 ^ i / 2 = Y / 2 ^ (i + 1) := by rw [Nat.div_div_eq_div_mul, Nat.pow_succ]
  have hlt : X / 2 ^ i < Y / 2 ^ i := by omega
  exact Nat.lt_of_div_lt_div hlt

/-- The solution without free unknowns is the least. -/
theorem low_least {w : Nat} (hw : w < 64) {F : List (Nat × Nat)} (h : Low w F) {X Y : Nat} (hX : Sol w (F.map Prod.fst) X) (hY : Sol w (F.map Prod.fst) Y)
    (h0 : ∀ i, i < w → i ∉ F.map Prod.snd → X.testBit i = false) : X ≤ Y := by
  by_cases e : X = Y
  · exact Nat.le_of_eq e
  · obtain ⟨i, h1, h2, h3⟩ := top_diff (w + 1) hX.1 hY.1 e
    by_cases hm : i ∈ F.map Prod.snd
    · exact absurd (low_unique hw h hX hY hm h3) h2
    · have hiw : i ≠ w := by rintro rfl; exact h2 (by rw [hX.2.1, hY.2.1])
      have hxf := h0 i (by omega) hm
      have hyt : Y.testBit i = true := by
        cases hy : Y.testBit i with
        | true => rfl
        | false => exact absurd (by rw [hxf, hy]) h2
      exact Nat.le_of_lt (lt_of_top hxf hyt h3)

end Go.Wd
/- The least solution by trying bits from the highest on, and how many bits are free. -/
namespace Go.Wd

/-- Whether equations have a solution. -/
def can (w : Nat) (es : List Nat) : Bool := solves w 0 es

theorem can_iff {w : Nat} (hw : w < 64) {es : List Nat} (h : ∀ e ∈ es, e < 2 ^ (w + 1)) : can w es = true ↔ ∃ X, Sol w es X :=
  solves_iff hw w 0 (by omega) es fun e he => ⟨h e he, fun i hi => absurd hi (by omega)⟩

/-- The bits below k are tried, from the highest on. -/
def greedy (w : Nat) : Nat → List Nat → Nat → Nat → Nat × Nat
  | 0, _, out, free => (out, free)
  | c + 1, es, out, free =>
    let zero := es ++ [2 ^ c]
    let one := es ++ [2 ^ c ||| 2 ^ w]
    let free' := if can w zero && can w one then free + 1 else free
    if can w zero then greedy w c zero out free' else greedy w c one (out ||| 2 ^ c) free'

theorem sol_zero {w c : Nat} (hc : c < 64) (es : List Nat) (X : Nat) : Sol w (es ++ [2 ^ c]) X ↔ Sol w es X ∧ X.testBit c = false := by
  have e : par (2 ^ c &&& X) = if X.testBit c then 1 else 0 := by
    rw [Nat.and_comm, and_two_pow]; cases X.testBit c
    · simp [par_zero]
    · simp [par_two_pow hc]
  constructor
  · rintro ⟨a, b, d⟩
    refine ⟨⟨a, b, fun e he => d e (by simp [he])⟩, ?_⟩
    have := d (2 ^ c) (by simp)
    rw [e] at this
    cases h : X.testBit c <;> simp [h] at this ⊢
  · rintro ⟨⟨a, b, d⟩, h⟩
    refine ⟨a, b, ?_⟩
    intro x hx
    rcases List.mem_append.1 hx with hx | hx
    · exact d x hx
    · rw [List.mem_singleton.1 hx, e, h]; rfl

theorem sol_one {w c : Nat} (hc : c < w) (hw : w < 64) (es : List Nat) (X : Nat) : Sol w (es ++ [2 ^ c ||| 2 ^ w]) X ↔ Sol w es X ∧ X.testBit c = true := by
  have ho : 2 ^ c ||| 2 ^ w = 2 ^ c ^^^ 2 ^ w := by
    apply Nat.eq_of_testBit_eq
    intro i
    rw [Nat.testBit_or, Nat.testBit_xor, Nat.testBit_two_pow, Nat.testBit_two_pow]
    by_cases h1 : c = i
    · have : ¬ w = i := by omega
      simp [h1, this]
    · simp [h1]
  have e : X.testBit w = true → par ((2 ^ c ||| 2 ^ w) &&& X) = if X.testBit c then 0 else 1 := by
    intro hX
    rw [ho, Nat.and_xor_distrib_right, par_xor, Nat.and_comm, and_two_pow, Nat.and_comm, and_two_pow, hX]
    cases X.testBit c
    · simp [par_zero, par_two_pow hw]
    · simp [par_two_pow hw, par_two_pow (show c < 64 by omega)]
  constructor
  · rintro ⟨a, b, d⟩
    refine ⟨⟨a, b, fun e he => d e (by simp [he])⟩, ?_⟩
    have := d (2 ^ c ||| 2 ^ w) (by simp)
    rw [e b] at this
    cases h : X.testBit c <;> simp [h] at this ⊢
  · rintro ⟨⟨a, b, d⟩, h⟩
    refine ⟨a, b, ?_⟩
    intro x hx
    rcases List.mem_append.1 hx with hx | hx
    · exact d x hx
    · rw [List.mem_singleton.1 hx, e b, h]; rfl

/-- How many numbers below k are in none of the least unknowns. -/
def frees (L : List Nat) : Nat → Nat
  | 0 => 0
  | k + 1 => frees L k + if k ∈ L then 0 else 1

/-- The bits from k to the width. -/
def above (w k X : Nat) : Nat := X % 2 ^ w / 2 ^ k * 2 ^ k

theorem above_testBit (w k X i : Nat) : (above w k X).testBit i = (decide (k ≤ i) && decide (i < w) && X.testBit i) := by
  unfold above
  rw [Nat.testBit_mul_two_pow]
  by_cases h : k ≤ i
  · rw [Nat.testBit_div_two_pow, Nat.testBit_mod_two_pow, Nat.sub_add_cancel h]; simp [h]
  · simp [h]

theorem greedy_spec {w : Nat} (hw : w < 64) {F : List (Nat × Nat)} (h : Low w F) {es0 : List Nat} (hes : ∀ X, Sol w es0 X ↔ Sol w (F.map Prod.fst) X) {X0 : Nat} (hX0 : Sol w es0 X0)
    (h0 : ∀ i, i < w → i ∉ F.map Prod.snd → X0.testBit i = false) :
    ∀ k, k ≤ w → ∀ es free, (∀ e ∈ es, e < 2 ^ (w + 1)) → (∀ X, Sol w es X ↔ Sol w es0 X ∧ ∀ i, k ≤ i → X.testBit i = X0.testBit i) →
      greedy w k es (above w k X0) free = (above w 0 X0, free + frees (F.map Prod.snd) k) := by
  intro k
  induction k with
  | zero => intro _ es free _ _; rfl
  | succ c ih =>
    intro hk es free hb hs
    have b2 : ∀ i, i ≤ w → 2 ^ i < 2 ^ (w + 1) := fun i hi => Nat.pow_lt_pow_right (by decide) (by omega)
    have bz : ∀ e ∈ es ++ [2 ^ c], e < 2 ^ (w + 1) := by
      intro e he
      rcases List.mem_append.1 he with he | he
      · exact hb e he
      · rw [List.mem_singleton.1 he]; exact b2 c (by omega)
    have bo : ∀ e ∈ es ++ [2 ^ c ||| 2 ^ w], e < 2 ^ (w + 1) := by
      intro e he
      rcases List.mem_append.1 he with he | he
      · exact hb e he
      · rw [List.mem_singleton.1 he]; exact Nat.or_lt_two_pow (b2 c (by omega)) (b2 w (by omega))
    have hin : Sol w es X0 := (hs X0).2 ⟨hX0, fun _ _ => rfl⟩
    have hz : can w (es ++ [2 ^ c]) = true ↔ ∃ X, Sol w es X ∧ X.testBit c = false := by
      rw [can_iff hw bz]; exact exists_congr fun X => sol_zero (by omega) es X
    have ho : can w (es ++ [2 ^ c ||| 2 ^ w]) = true ↔ ∃ X, Sol w es X ∧ X.testBit c = true := by
      rw [can_iff hw bo]; exact exists_congr fun X => sol_one (by omega) hw es X
    have abv : above w (c + 1) X0 ||| (if X0.testBit c then 2 ^ c else 0) = above w c X0 := by
      apply Nat.eq_of_testBit_eq
      intro i
      rw [Nat.testBit_or, above_testBit, above_testBit]
      by_cases h1 : i = c
      · subst h1; cases X0.testBit i
        · simp
        · simp; omega
      · have : (if X0.testBit c then 2 ^ c else 0).testBit i = false := by
          cases X0.testBit c
          · simp
          · simp [Nat.testBit_two_pow]; omega
        rw [this]
        have e : decide (c + 1 ≤ i) = decide (c ≤ i) := by apply decide_eq_decide.2; omega
        simp [e]
    have step : ∀ b, b = X0.testBit c → ∀ X, (Sol w es X ∧ X.testBit c = b) ↔ (Sol w es0 X ∧ ∀ i, c ≤ i → X.testBit i = X0.testBit i) := by
      intro b hb' X
      rw [hs X]
      constructor
      · rintro ⟨⟨a, d⟩, e⟩
        refine ⟨a, fun i hi => ?_⟩
        by_cases h1 : i = c
        · subst h1; rw [e, hb']
        · exact d i (by omega)
      · rintro ⟨a, d⟩
        exact ⟨⟨a, fun i hi => d i (by omega)⟩, by rw [d c (by omega), hb']⟩
    simp only [greedy]
    by_cases hm : c ∈ F.map Prod.snd
    · -- the bit is forced
      have hun : ∀ X, Sol w es X → X.testBit c = X0.testBit c := by
        intro X hX
        obtain ⟨a, d⟩ := (hs X).1 hX
        exact low_unique hw h ((hes X).1 a) ((hes X0).1 hX0) hm fun i hi => d i (by omega)
      cases hb0 : X0.testBit c with
      | false =>
        have c1 : can w (es ++ [2 ^ c]) = true := hz.2 ⟨X0, hin, hb0⟩
        have c2 : can w (es ++ [2 ^ c ||| 2 ^ w]) = false := by
          rw [Bool.eq_false_iff]; intro hc
          obtain ⟨X, hX, hX'⟩ := ho.1 hc
          rw [hun X hX, hb0] at hX'; exact absurd hX' (by decide)
        rw [c1, c2]
        simp only [Bool.and_false, Bool.false_eq_true, if_false, if_true]
        rw [show above w (c + 1) X0 = above w c X0 by rw [← abv, hb0]; simp]
        rw [ih (by omega) _ free bz (fun X => by rw [sol_zero (by omega)]; exact step false hb0.symm X)]
        simp [frees, hm]
      | true =>
        have c1 : can w (es ++ [2 ^ c]) = false := by
          rw [Bool.eq_false_iff]; intro hc
          obtain ⟨X, hX, hX'⟩ := hz.1 hc
          rw [hun X hX, hb0] at hX'; exact absurd hX' (by decide)
        rw [c1]
        simp only [Bool.false_and, Bool.false_eq_true, if_false]
        rw [show above w (c + 1) X0 ||| 2 ^ c = above w c X0 by rw [← abv, hb0]; simp]
        rw [ih (by omega) _ free bo (fun X => by rw [sol_one (by omega) hw]; exact step true hb0.symm X)]
        simp [frees, hm]
    · -- the bit is free
      have hb0 : X0.testBit c = false := h0 c (by omega) hm
      have c1 : can w (es ++ [2 ^ c]) = true := hz.2 ⟨X0, hin, hb0⟩
      have c2 : can w (es ++ [2 ^ c ||| 2 ^ w]) = true := by
        refine ho.2 ?_
        obtain ⟨X, hX, hX'⟩ := low_exists hw h (Z := X0 ^^^ 2 ^ c) (flip_lt (by omega) hX0.1) (by rw [testBit_flip, hX0.2.1]; simp; omega)
        refine ⟨X, (hs X).2 ⟨(hes X).2 hX, ?_⟩, ?_⟩
        · refine low_agree hw h hX ((hes X0).1 hX0) ?_
          intro i hi hni
          rw [hX' i hni, testBit_flip]
          have : ¬ c = i := by omega
          simp [this]
        · rw [hX' c hm, testBit_flip, hb0]; simp
      rw [c1, c2]
      simp only [Bool.and_true, if_true]
      rw [show above w (c + 1) X0 = above w c X0 by rw [← abv, hb0]; simp]
      rw [ih (by omega) _ (free + 1) bz (fun X => by rw [sol_zero (by omega)]; exact step false hb0.symm X)]
      simp [frees, hm]; omega

/-- As many bits are free as there are more bits than equations. -/
theorem frees_eq {w : Nat} : ∀ (L : List Nat), L.Nodup → (∀ c ∈ L, c < w) → frees L w + L.length = w := by
  have f0 : ∀ k, frees [] k = k := by intro k; induction k with
    | zero => rfl
    | succ k ih => simp [frees, ih]
  have fc : ∀ a (L : List Nat), a ∉ L → ∀ k, frees L k = frees (a :: L) k + if a < k then 1 else 0 := by
    intro a L ha k
    induction k with
    | zero => simp [frees]
    | succ k ih =>
      simp only [frees]
      by_cases e : k = a
      · subst e
        have : ¬ k < k := by omega
        simp [this] at ih
        simp [ha, ih]
      · have e1 : (a < k + 1) ↔ (a < k) := by omega
        simp only [List.mem_cons, e, false_or, e1]
        omega
  intro L
  induction L with
  | nil => intro _ _; simp [f0]
  | cons a L ih =>
    intro hd hl
    rw [List.nodup_cons] at hd
    have h1 := ih hd.2 fun c hc => hl c (by simp [hc])
    have h2 := fc a L hd.1 w
    have h3 := hl a (by simp)
    simp only [h3, if_true] at h2
    simp only [List.length_cons]
    omega

end Go.Wd
/- Equations in echelon form, one added after another, and their least solution. -/
namespace Go.Wd

/-- The least bit of the lowest ones that is 1, or their number. -/
def lbF : Nat → Nat → Nat → Nat
  | 0, c, _ => c
  | k + 1, c, n => if n % 2 = 1 then c else lbF k (c + 1) (n / 2)

def lead (w n : Nat) : Nat := lbF w 0 n

theorem lbF_spec (k : Nat) : ∀ c n, c ≤ lbF k c n ∧ lbF k c n ≤ c + k ∧ (∀ i, c + i < lbF k c n → n.testBit i = false) ∧ (lbF k c n < c + k → n.testBit (lbF k c n - c) = true) := by
  induction k with
  | zero => intro c n; simp [lbF]; intro i h; omega
  | succ k ih =>
    intro c n
    simp only [lbF]
    by_cases h : n % 2 = 1
    · simp only [h, if_true]
      refine ⟨Nat.le_refl _, by omega, fun i hi => by omega, fun _ => ?_⟩
      simp [h]
    · simp only [h, if_false]
      obtain ⟨a, b, d, e⟩ := ih (c + 1) (n / 2)
      refine ⟨by omega, by omega, ?_, ?_⟩
      · intro i hi
        cases i with
        | zero => simp; omega
        | succ i => rw [Nat.testBit_succ]; exact d i (by omega)
      · intro hl
        have := e (by omega)
        rw [show lbF k (c + 1) (n / 2) - c = (lbF k (c + 1) (n / 2) - (c + 1)) + 1 by omega, Nat.testBit_succ]
        exact this

theorem lead_le (w n : Nat) : lead w n ≤ w := by have := (lbF_spec w 0 n).2.1; simpa [lead] using this
theorem lead_low {w n i : Nat} (h : i < lead w n) : n.testBit i = false := (lbF_spec w 0 n).2.2.1 i (by simpa [lead] using h)
theorem lead_bit {w n : Nat} (h : lead w n < w) : n.testBit (lead w n) = true := by
  have := (lbF_spec w 0 n).2.2.2 (by simpa [lead] using h)
  simpa [lead] using this
theorem lead_eq {w n c : Nat} (hc : c < w) (h1 : n.testBit c = true) (h2 : ∀ i, i < c → n.testBit i = false) : lead w n = c := by
  have h3 : ¬ c < lead w n := fun h => by rw [lead_low h] at h1; exact absurd h1 (by decide)
  have h4 : ¬ lead w n < c := fun h => by
    have := lead_bit (show lead w n < w by omega)
    rw [h2 _ h] at this; exact absurd this (by decide)
  omega

def reduced (w : Nat) (rows : List Nat) (row : Nat) : Nat := rows.foldl (fun r o => if r.testBit (lead w o) then r ^^^ o else r) row

def add (w : Nat) (rows : List Nat) (row : Nat) : Option (List Nat) :=
  let r := reduced w rows row
  if lead w r = w then (if r = 0 then some rows else none)
  else some (rows.map (fun o => if o.testBit (lead w r) then o ^^^ r else o) ++ [r])

def least (w : Nat) (rows : List Nat) : Nat := rows.foldl (fun out r => out ||| r / 2 ^ w * 2 ^ lead w r) 0

structure Red (w : Nat) (rows : List Nat) : Prop where
  ok : ∀ r ∈ rows, r < 2 ^ (w + 1) ∧ lead w r < w
  cross : ∀ r ∈ rows, ∀ o ∈ rows, r.testBit (lead w o) = true → lead w r = lead w o
  dis : (rows.map (lead w)).Nodup

theorem Red.inj {w : Nat} {rows : List Nat} (h : Red w rows) : ∀ p ∈ rows, ∀ q ∈ rows, lead w p = lead w q → p = q := by
  have := h.dis
  clear h
  induction rows with
  | nil => intro p hp; simp at hp
  | cons a F ih =>
    simp only [List.map_cons, List.nodup_cons] at this
    intro p hp q hq e
    rcases List.mem_cons.1 hp with hp | hp <;> rcases List.mem_cons.1 hq with hq | hq
    · rw [hp, hq]
    · exact absurd (List.mem_map.2 ⟨q, hq, by rw [← e, hp]⟩) this.1
    · exact absurd (List.mem_map.2 ⟨p, hp, by rw [e, hq]⟩) this.1
    · exact ih this.2 p hp q hq e

theorem Red.low {w : Nat} {rows : List Nat} (h : Red w rows) : Low w (rows.map fun r => (r, lead w r)) := by
  constructor
  · intro p hp
    obtain ⟨r, hr, rfl⟩ := List.mem_map.1 hp
    obtain ⟨a, b⟩ := h.ok r hr
    exact ⟨a, b, lead_bit b, fun i hi => lead_low hi⟩
  · rw [List.map_map]; exact h.dis

theorem map_fst (w : Nat) (rows : List Nat) : (rows.map fun r => (r, lead w r)).map Prod.fst = rows := by
  rw [List.map_map]; simp [Function.comp_def]

theorem reduced_spec {w : Nat} {rows : List Nat} (h : Red w rows) {row : Nat} (hr : row < 2 ^ (w + 1)) :
    reduced w rows row < 2 ^ (w + 1) ∧ (∀ X, (∀ e ∈ rows, par (e &&& X) = 0) → par (reduced w rows row &&& X) = par (row &&& X)) ∧ ∀ o ∈ rows, (reduced w rows row).testBit (lead w o) = false := by
  have key : ∀ (todo : List Nat) (P : Nat → Prop) (r : Nat), (∀ o ∈ todo, o ∈ rows) → r < 2 ^ (w + 1) → (∀ o, P o → o ∈ rows ∧ r.testBit (lead w o) = false) →
      reduced w todo r < 2 ^ (w + 1) ∧ (∀ X, (∀ e ∈ rows, par (e &&& X) = 0) → par (reduced w todo r &&& X) = par (r &&& X)) ∧ ∀ o, P o ∨ o ∈ todo → (reduced w todo r).testBit (lead w o) = false := by
    intro todo
    induction todo with
    | nil => intro P r _ h1 h2; refine ⟨h1, fun _ _ => rfl, ?_⟩; rintro o (ho | ho); exact (h2 o ho).2; simp at ho
    | cons a todo ih =>
      intro P r hm h1 h2
      have ha : a ∈ rows := hm a (by simp)
      have step : reduced w (a :: todo) r = reduced w todo (if r.testBit (lead w a) then r ^^^ a else r) := rfl
      rw [step]
      cases hb : r.testBit (lead w a) with
      | false =>
        simp only [Bool.false_eq_true, if_false]
        obtain ⟨a1, a2, a3⟩ := ih (fun x => P x ∨ x = a) r (fun o ho => hm o (by simp [ho])) h1 (by
          rintro o (ho | rfl); exact h2 o ho; exact ⟨ha, hb⟩)
        refine ⟨a1, a2, ?_⟩
        rintro o (ho | ho)
        · exact a3 o (Or.inl (Or.inl ho))
        · rcases List.mem_cons.1 ho with rfl | ho
          · exact a3 _ (Or.inl (Or.inr rfl))
          · exact a3 o (Or.inr ho)
      | true =>
        simp only [if_true]
        obtain ⟨a1, a2, a3⟩ := ih (fun x => P x ∨ x = a) (r ^^^ a) (fun o ho => hm o (by simp [ho])) (Nat.xor_lt_two_pow h1 (h.ok a ha).1) (by
          rintro o (ho | rfl)
          · obtain ⟨b1, b2⟩ := h2 o ho
            refine ⟨b1, ?_⟩
            rw [Nat.testBit_xor, b2]
            cases hc : a.testBit (lead w o) with
            | false => rfl
            | true =>
              have := h.cross a ha o b1 hc
              rw [this, b2] at hb; exact absurd hb (by decide)
          · refine ⟨ha, ?_⟩
            rw [Nat.testBit_xor, hb, lead_bit (h.ok _ ha).2]; rfl)
        refine ⟨a1, ?_, ?_⟩
        · intro X hX
          rw [a2 X hX, Nat.and_xor_distrib_right, par_xor, hX a ha]; simp
        · rintro o (ho | ho)
          · exact a3 o (Or.inl (Or.inl ho))
          · rcases List.mem_cons.1 ho with rfl | ho
            · exact a3 _ (Or.inl (Or.inr rfl))
            · exact a3 o (Or.inr ho)
  obtain ⟨a1, a2, a3⟩ := key rows (fun _ => False) row (fun _ h => h) hr (fun _ h => h.elim)
  exact ⟨a1, a2, fun o ho => a3 o (Or.inr ho)⟩

theorem no_lead {w r : Nat} (hr : r < 2 ^ (w + 1)) (h : lead w r = w) : r = if r.testBit w then 2 ^ w else 0 := by
  apply Nat.eq_of_testBit_eq
  intro i
  by_cases h1 : i < w
  · rw [lead_low (w := w) (by omega)]; cases r.testBit w <;> simp [Nat.testBit_two_pow]; omega
  · by_cases h2 : i = w
    · subst h2; cases r.testBit i <;> simp
    · rw [Nat.testBit_lt_two_pow (Nat.lt_of_lt_of_le hr (Nat.pow_le_pow_right (by decide) (by omega)))]
      cases r.testBit w <;> simp [Nat.testBit_two_pow]; omega

theorem add_none {w : Nat} (hw : w < 64) {rows : List Nat} (h : Red w rows) {row : Nat} (hr : row < 2 ^ (w + 1)) (ha : add w rows row = none) : ¬ ∃ X, Sol w (row :: rows) X := by
  obtain ⟨a1, a2, _⟩ := reduced_spec h hr
  simp only [add] at ha
  by_cases h1 : lead w (reduced w rows row) = w
  · rw [if_pos h1] at ha
    by_cases h2 : reduced w rows row = 0
    · rw [if_pos h2] at ha; exact absurd ha (by simp)
    · rintro ⟨X, _, x2, x3⟩
      have e := no_lead a1 h1
      have hp := a2 X fun e he => x3 e (by simp [he])
      rw [x3 row (by simp)] at hp
      cases hb : (reduced w rows row).testBit w with
      | false => rw [hb] at e; simp at e; exact h2 e
      | true =>
        rw [hb] at e; simp only [if_true] at e
        rw [e, Nat.and_comm, and_two_pow, x2] at hp
        simp only [if_true] at hp
        rw [par_two_pow hw] at hp; omega
  · rw [if_neg h1] at ha; exact absurd ha (by simp)

theorem add_some {w : Nat} {rows rows' : List Nat} (h : Red w rows) {row : Nat} (hr : row < 2 ^ (w + 1)) (ha : add w rows row = some rows') :
    Red w rows' ∧ ∀ X, Sol w rows' X ↔ Sol w (row :: rows) X := by
  obtain ⟨a1, a2, a3⟩ := reduced_spec h hr
  simp only [add] at ha
  generalize hR : reduced w rows row = R at *
  by_cases h1 : lead w R = w
  · rw [if_pos h1] at ha
    by_cases h2 : R = 0
    · rw [if_pos h2] at ha
      cases ha
      refine ⟨h, fun X => ⟨?_, ?_⟩⟩
      · rintro ⟨x1, x2, x3⟩
        refine ⟨x1, x2, ?_⟩
        intro e he
        rcases List.mem_cons.1 he with rfl | he
        · rw [← a2 X x3, h2]; simp [par_zero]
        · exact x3 e he
      · rintro ⟨x1, x2, x3⟩
        exact ⟨x1, x2, fun e he => x3 e (by simp [he])⟩
    · rw [if_neg h2] at ha; exact absurd ha (by simp)
  · rw [if_neg h1] at ha
    have hl : lead w R < w := by have := lead_le w R; omega
    have hRb := lead_bit hl
    -- what becomes of the other equations
    have hf : ∀ o ∈ rows, (if o.testBit (lead w R) then o ^^^ R else o) < 2 ^ (w + 1) ∧ lead w (if o.testBit (lead w R) then o ^^^ R else o) = lead w o ∧ (if o.testBit (lead w R) then o ^^^ R else o).testBit (lead w R) = false
        ∧ (∀ p ∈ rows, (if o.testBit (lead w R) then o ^^^ R else o).testBit (lead w p) = o.testBit (lead w p)) := by
      intro o ho
      obtain ⟨o1, o2⟩ := h.ok o ho
      have ob := lead_bit o2
      cases hb : o.testBit (lead w R) with
      | false =>
        simp only [Bool.false_eq_true, if_false]
        exact ⟨o1, trivial, hb, fun _ _ => trivial⟩
      | true =>
        simp only [if_true]
        have hne : lead w o ≠ lead w R := by
          intro e
          have := a3 o ho
          rw [e, hRb] at this; exact absurd this (by decide)
        have hlt : lead w o < lead w R := by
          have : ¬ lead w R < lead w o := fun hh => by rw [lead_low hh] at hb; exact absurd hb (by decide)
          omega
        refine ⟨Nat.xor_lt_two_pow o1 a1, lead_eq o2 ?_ ?_, ?_, ?_⟩
        · rw [Nat.testBit_xor, ob, lead_low hlt]; rfl
        · intro i hi
          rw [Nat.testBit_xor, lead_low hi, lead_low (show i < lead w R by omega)]; rfl
        · rw [Nat.testBit_xor, hb, hRb]; rfl
        · intro p hp
          rw [Nat.testBit_xor, a3 p hp]; simp
    generalize hF : (fun o => if o.testBit (lead w R) then o ^^^ R else o) = f at ha
    have hf' : ∀ o ∈ rows, f o < 2 ^ (w + 1) ∧ lead w (f o) = lead w o ∧ (f o).testBit (lead w R) = false ∧ ∀ p ∈ rows, (f o).testBit (lead w p) = o.testBit (lead w p) := by
      intro o ho; rw [← hF]; exact hf o ho
    cases ha
    refine ⟨⟨?_, ?_, ?_⟩, ?_⟩
    · intro r hr'
      rcases List.mem_append.1 hr' with hr' | hr'
      · obtain ⟨o, ho, rfl⟩ := List.mem_map.1 hr'
        obtain ⟨b1, b2, _, _⟩ := hf' o ho
        exact ⟨b1, by rw [b2]; exact (h.ok o ho).2⟩
      · rw [List.mem_singleton.1 hr']; exact ⟨a1, hl⟩
    · intro r hr' o ho' hb
      rcases List.mem_append.1 hr' with hr' | hr' <;> rcases List.mem_append.1 ho' with ho' | ho'
      · obtain ⟨r0, hr0, rfl⟩ := List.mem_map.1 hr'
        obtain ⟨o0, ho0, rfl⟩ := List.mem_map.1 ho'
        rw [(hf' r0 hr0).2.1, (hf' o0 ho0).2.1]
        rw [(hf' o0 ho0).2.1, (hf' r0 hr0).2.2.2 o0 ho0] at hb
        exact h.cross r0 hr0 o0 ho0 hb
      · obtain ⟨r0, hr0, rfl⟩ := List.mem_map.1 hr'
        rw [List.mem_singleton.1 ho', (hf' r0 hr0).2.2.1] at hb; exact absurd hb (by decide)
      · obtain ⟨o0, ho0, rfl⟩ := List.mem_map.1 ho'
        rw [List.mem_singleton.1 hr', (hf' o0 ho0).2.1, a3 o0 ho0] at hb; exact absurd hb (by decide)
      · rw [List.mem_singleton.1 hr', List.mem_singleton.1 ho']
    · rw [List.map_append, List.map_map]
      have hm : rows.map (lead w ∘ f) = rows.map (lead w) := List.map_congr_left fun o ho => (hf' o ho).2.1
      rw [hm, List.nodup_append]
      refine ⟨h.dis, by simp, ?_⟩
      intro a hA b hB e
      obtain ⟨o, ho, rfl⟩ := List.mem_map.1 hA
      simp only [List.map_cons, List.map_nil, List.mem_singleton] at hB
      have := a3 o ho
      rw [e, hB, hRb] at this; exact absurd this (by decide)
    · intro X
      have hpf : par (R &&& X) = 0 → ∀ o, par (f o &&& X) = par (o &&& X) := by
        intro hx o
        have hfo : f o = if o.testBit (lead w R) then o ^^^ R else o := by rw [← hF]
        rw [hfo]
        cases hb : o.testBit (lead w R) with
        | false => simp
        | true => simp only [if_true]; rw [Nat.and_xor_distrib_right, par_xor, hx]; simp
      constructor
      · rintro ⟨x1, x2, x3⟩
        have hx : par (R &&& X) = 0 := x3 R (by simp)
        have hall : ∀ e ∈ rows, par (e &&& X) = 0 := by
          intro e he
          rw [← hpf hx e]; exact x3 _ (List.mem_append.2 (Or.inl (List.mem_map.2 ⟨e, he, rfl⟩)))
        refine ⟨x1, x2, ?_⟩
        intro e he
        rcases List.mem_cons.1 he with rfl | he
        · rw [← a2 X hall]; exact hx
        · exact hall e he
      · rintro ⟨x1, x2, x3⟩
        have hall : ∀ e ∈ rows, par (e &&& X) = 0 := fun e he => x3 e (by simp [he])
        have hx : par (R &&& X) = 0 := by rw [a2 X hall]; exact x3 row (by simp)
        refine ⟨x1, x2, ?_⟩
        intro e he
        rcases List.mem_append.1 he with he | he
        · obtain ⟨o, ho, rfl⟩ := List.mem_map.1 he
          rw [hpf hx o]; exact hall o ho
        · rw [List.mem_singleton.1 he]; exact hx

theorem div_top {w r : Nat} (hr : r < 2 ^ (w + 1)) : r / 2 ^ w = if r.testBit w then 1 else 0 := by
  have : r / 2 ^ w < 2 := by rw [Nat.div_lt_iff_lt_mul (Nat.two_pow_pos w)]; rw [Nat.pow_succ] at hr; omega
  rw [testBit_eq]
  generalize r / 2 ^ w = q at this ⊢
  by_cases h : q % 2 = 1
  · have : q = 1 := by omega
    simp [this]
  · have : q = 0 := by omega
    simp [this]

theorem least_testBit {w : Nat} {rows : List Nat} (h : ∀ r ∈ rows, r < 2 ^ (w + 1)) (i : Nat) : (least w rows).testBit i = rows.any fun r => decide (lead w r = i) && r.testBit w := by
  have key : ∀ (l : List Nat) out, (∀ r ∈ l, r < 2 ^ (w + 1)) → (l.foldl (fun out r => out ||| r / 2 ^ w * 2 ^ lead w r) out).testBit i = (out.testBit i || l.any fun r => decide (lead w r = i) && r.testBit w) := by
    intro l
    induction l with
    | nil => intro out _; simp
    | cons a l ih =>
      intro out hl
      rw [List.foldl_cons, ih _ (fun r hr => hl r (by simp [hr])), div_top (hl a (by simp)), Nat.testBit_or, List.any_cons]
      have : ((if a.testBit w then 1 else 0) * 2 ^ lead w a).testBit i = (decide (lead w a = i) && a.testBit w) := by
        cases a.testBit w
        · simp
        · simp [Nat.testBit_two_pow]
      rw [this, Bool.or_assoc]
  have := key rows 0 h
  simpa [least] using this

theorem least_sol {w : Nat} (hw : w < 64) {rows : List Nat} (h : Red w rows) : Sol w rows (least w rows ||| 2 ^ w) ∧ least w rows < 2 ^ w ∧ ∀ i, i ∉ rows.map (lead w) → (least w rows).testBit i = false := by
  have hb := least_testBit (w := w) (rows := rows) (fun r hr => (h.ok r hr).1)
  have hn : ∀ i, i ∉ rows.map (lead w) → (least w rows).testBit i = false := by
    intro i hi
    rw [hb i, List.any_eq_false]
    intro r hr
    have : ¬ lead w r = i := by rintro rfl; exact hi (List.mem_map.2 ⟨r, hr, rfl⟩)
    simp [this]
  have hlt : least w rows < 2 ^ w := by
    apply Nat.lt_pow_two_of_testBit
    intro i hi
    apply hn
    intro hm
    obtain ⟨r, hr, rfl⟩ := List.mem_map.1 hm
    have := (h.ok r hr).2
    omega
  refine ⟨⟨?_, ?_, ?_⟩, hlt, hn⟩
  · exact Nat.or_lt_two_pow (by rw [Nat.pow_succ]; omega) (Nat.pow_lt_pow_right (by decide) (by omega))
  · rw [Nat.testBit_or]; simp
  · intro r hr
    obtain ⟨r1, r2⟩ := h.ok r hr
    have hle : (least w rows).testBit (lead w r) = r.testBit w := by
      rw [hb]
      cases ht : r.testBit w with
      | true => rw [List.any_eq_true]; exact ⟨r, hr, by simp [ht]⟩
      | false =>
        rw [List.any_eq_false]
        intro o ho
        by_cases e : lead w o = lead w r
        · rw [h.inj o ho r hr e]; simp [ht]
        · simp [e]
    have e : r &&& (least w rows ||| 2 ^ w) = if r.testBit w then 2 ^ lead w r ^^^ 2 ^ w else 0 := by
      apply Nat.eq_of_testBit_eq
      intro i
      rw [Nat.testBit_and, Nat.testBit_or, Nat.testBit_two_pow]
      by_cases h1 : i = lead w r
      · subst h1
        rw [hle, lead_bit r2]
        have : ¬ w = lead w r := by omega
        cases r.testBit w <;> simp [this, Nat.testBit_xor]
      · by_cases h2 : i = w
        · subst h2
          cases r.testBit i <;> simp [Nat.testBit_xor, Nat.testBit_two_pow]; omega
        · have hw2 : ¬ w = i := fun hh => h2 hh.symm
          have hl2 : ¬ lead w r = i := fun hh => h1 hh.symm
          have hz : (r.testBit i && (least w rows).testBit i) = false := by
            cases hx : (least w rows).testBit i with
            | false => simp
            | true =>
              rw [hb i, List.any_eq_true] at hx
              obtain ⟨o, ho, ho2⟩ := hx
              simp only [Bool.and_eq_true, decide_eq_true_eq] at ho2
              cases hy : r.testBit i with
              | false => rfl
              | true =>
                rw [← ho2.1] at hy
                have := h.cross r hr o ho hy
                rw [ho2.1] at this; exact absurd this hl2
          simp only [hw2, decide_false, Bool.or_false, hz]
          cases r.testBit w <;> simp [Nat.testBit_xor, hw2, hl2]
    rw [e]
    cases r.testBit w
    · simp [par_zero]
    · simp only [if_true]; rw [par_xor, par_two_pow (by omega), par_two_pow hw]; rfl

end Go.Wd
/- Equations, added one after another in echelon form, and the same ones solved by trying bits. -/
namespace Go.Wd

def addAll (w : Nat) : List Nat → List Nat → Option (List Nat)
  | rows, [] => some rows
  | rows, e :: es => match add w rows e with
    | none => none
    | some rows' => addAll w rows' es

theorem red_nil (w : Nat) : Red w [] := ⟨fun _ h => absurd h (by simp), fun _ h => absurd h (by simp), by simp⟩

theorem addAll_none {w : Nat} (hw : w < 64) : ∀ (es rows : List Nat), Red w rows → (∀ e ∈ es, e < 2 ^ (w + 1)) → addAll w rows es = none → ¬ ∃ X, Sol w (rows ++ es) X := by
  intro es
  induction es with
  | nil => intro rows _ _ h; simp [addAll] at h
  | cons e es ih =>
    intro rows hr hb h
    simp only [addAll] at h
    cases ha : add w rows e with
    | none =>
      rintro ⟨X, x1, x2, x3⟩
      refine add_none hw hr (hb e (by simp)) ha ⟨X, x1, x2, ?_⟩
      intro a h'
      rcases List.mem_cons.1 h' with rfl | h'
      · exact x3 _ (by simp)
      · exact x3 _ (by simp [h'])
    | some rows' =>
      rw [ha] at h
      obtain ⟨a1, a2⟩ := add_some hr (hb e (by simp)) ha
      rintro ⟨X, x1, x2, x3⟩
      refine ih rows' a1 (fun a ha => hb a (by simp [ha])) h ⟨X, x1, x2, ?_⟩
      intro a h'
      rcases List.mem_append.1 h' with h' | h'
      · refine ((a2 X).2 ⟨x1, x2, ?_⟩).2.2 a h'
        intro b hb'
        rcases List.mem_cons.1 hb' with rfl | hb'
        · exact x3 _ (by simp)
        · exact x3 _ (by simp [hb'])
      · exact x3 a (by simp [h'])

theorem addAll_some {w : Nat} : ∀ (es rows rows' : List Nat), Red w rows → (∀ e ∈ es, e < 2 ^ (w + 1)) → addAll w rows es = some rows' → Red w rows' ∧ ∀ X, Sol w rows' X ↔ Sol w (rows ++ es) X := by
  intro es
  induction es with
  | nil => intro rows rows' hr _ h; simp only [addAll] at h; cases h; exact ⟨hr, fun X => by simp⟩
  | cons e es ih =>
    intro rows rows' hr hb h
    simp only [addAll] at h
    cases ha : add w rows e with
    | none => rw [ha] at h; exact absurd h (by simp)
    | some rows1 =>
      rw [ha] at h
      obtain ⟨a1, a2⟩ := add_some hr (hb e (by simp)) ha
      obtain ⟨b1, b2⟩ := ih rows1 rows' a1 (fun a ha => hb a (by simp [ha])) h
      refine ⟨b1, fun X => ?_⟩
      rw [b2 X]
      constructor
      · rintro ⟨x1, x2, x3⟩
        have := ((a2 X).1 ⟨x1, x2, fun a ha => x3 a (by simp [ha])⟩).2.2
        refine ⟨x1, x2, ?_⟩
        intro a h'
        rcases List.mem_append.1 h' with h' | h'
        · exact this a (by simp [h'])
        · rcases List.mem_cons.1 h' with rfl | h'
          · exact this _ (by simp)
          · exact x3 a (by simp [h'])
      · rintro ⟨x1, x2, x3⟩
        have := ((a2 X).2 ⟨x1, x2, fun a ha => by
          rcases List.mem_cons.1 ha with rfl | ha
          · exact x3 _ (by simp)
          · exact x3 _ (by simp [ha])⟩).2.2
        refine ⟨x1, x2, ?_⟩
        intro a h'
        rcases List.mem_append.1 h' with h' | h'
        · exact this a h'
        · exact x3 a (by simp [h'])

/-- What the reference tells of equations: whether they have a solution, the least one, and how many bits are free. -/
theorem addAll_can {w : Nat} (hw : w < 64) {es : List Nat} (hb : ∀ e ∈ es, e < 2 ^ (w + 1)) :
    (addAll w [] es = none → can w es = false) ∧
    ∀ rows, addAll w [] es = some rows → can w es = true ∧ greedy w w es 0 0 = (least w rows, w - rows.length) ∧ rows.length ≤ w ∧ Red w rows ∧ ∀ X, Sol w rows X ↔ Sol w es X := by
  refine ⟨?_, ?_⟩
  · intro h
    have := addAll_none hw es [] (red_nil w) hb h
    rw [List.nil_append] at this
    rw [Bool.eq_false_iff]
    intro hc
    exact this ((can_iff hw hb).1 hc)
  · intro rows h
    obtain ⟨a1, a2⟩ := addAll_some es [] rows (red_nil w) hb h
    simp only [List.nil_append] at a2
    obtain ⟨l1, l2, l3⟩ := least_sol hw a1
    have hmap : (rows.map fun r => (r, lead w r)).map Prod.snd = rows.map (lead w) := by rw [List.map_map]; rfl
    have hfr : frees (rows.map (lead w)) w + rows.length = w := by
      have := frees_eq (w := w) (rows.map (lead w)) a1.dis (fun c hc => by
        obtain ⟨r, hr, rfl⟩ := List.mem_map.1 hc; exact (a1.ok r hr).2)
      simpa using this
    have hX : Sol w es (least w rows ||| 2 ^ w) := (a2 _).1 l1
    have hab : ∀ k, above w k (least w rows ||| 2 ^ w) = above w k (least w rows) := by
      intro k
      apply Nat.eq_of_testBit_eq
      intro i
      rw [above_testBit, above_testBit, Nat.testBit_or, Nat.testBit_two_pow]
      by_cases h1 : i < w
      · have : ¬ w = i := by omega
        simp [this]
      · simp [h1]
    have hg := greedy_spec hw a1.low (es0 := es) (fun X => by rw [map_fst]; exact (a2 X).symm) hX (by
      intro i hi hni
      rw [hmap] at hni
      rw [Nat.testBit_or, l3 i hni, Nat.testBit_two_pow]
      have : ¬ w = i := by omega
      simp [this]) w (Nat.le_refl _) es 0 hb (by
        intro X
        refine ⟨fun hs => ⟨hs, ?_⟩, fun hs => hs.1⟩
        intro i hi
        by_cases h1 : i = w
        · subst h1; rw [hs.2.1, hX.2.1]
        · rw [Nat.testBit_lt_two_pow (Nat.lt_of_lt_of_le hs.1 (Nat.pow_le_pow_right (by decide) (by omega))), Nat.testBit_lt_two_pow (Nat.lt_of_lt_of_le hX.1 (Nat.pow_le_pow_right (by decide) (by omega)))])
    have hw0 : above w w (least w rows) = 0 := by
      unfold above; rw [Nat.div_eq_of_lt (Nat.mod_lt _ (Nat.two_pow_pos w))]; simp
    have h00 : above w 0 (least w rows) = least w rows := by
      unfold above; rw [Nat.mod_eq_of_lt l2]; simp
    rw [hab, hab, hw0, h00, hmap] at hg
    refine ⟨(can_iff hw hb).2 ⟨_, hX⟩, ?_, by omega, a1, a2⟩
    rw [hg]
    congr 1
    omega

end Go.Wd
/- The rank of equations by clearing lists from the front, and outputs that all solutions agree about. -/
namespace Go.Wd

/-- The equations that are left to clear others with. -/
def pivots (w : Nat) : Nat → List Nat → List Nat
  | 0, _ => []
  | _ + 1, [] => []
  | k + 1, e :: es => if e = 0 then pivots w k es else e :: pivots w k (es.map fun x => if x.testBit (lead w e) then x ^^^ e else x)

theorem lead_lt {w e : Nat} (h : e < 2 ^ w) (h0 : e ≠ 0) : lead w e < w := by
  have := lead_le w e
  by_cases h1 : lead w e = w
  · exfalso
    apply h0
    have hn := no_lead (w := w) (r := e) (by rw [Nat.pow_succ]; omega) h1
    rw [Nat.testBit_lt_two_pow h] at hn
    simpa using hn
  · omega

theorem pivots_spec {w : Nat} : ∀ (k : Nat) (es : List Nat), es.length ≤ k → (∀ e ∈ es, e < 2 ^ w) → ∀ c, (∀ e ∈ es, e.testBit c = false) →
    (∀ p ∈ pivots w k es, p < 2 ^ w ∧ p ≠ 0 ∧ p.testBit c = false) := by
  intro k
  induction k with
  | zero => intro es _ _ c _ p hp; simp [pivots] at hp
  | succ k ih =>
    intro es hl hb c hc p hp
    cases es with
    | nil => simp [pivots] at hp
    | cons e es =>
      simp only [pivots] at hp
      by_cases h0 : e = 0
      · rw [if_pos h0] at hp
        exact ih es (by simpa using hl) (fun a ha => hb a (by simp [ha])) c (fun a ha => hc a (by simp [ha])) p hp
      · rw [if_neg h0] at hp
        rcases List.mem_cons.1 hp with rfl | hp
        · exact ⟨hb _ (by simp), h0, hc _ (by simp)⟩
        · refine ih _ (by simpa using hl) ?_ c ?_ p hp
          · intro a ha
            obtain ⟨x, hx, rfl⟩ := List.mem_map.1 ha
            split
            · exact Nat.xor_lt_two_pow (hb x (by simp [hx])) (hb e (by simp))
            · exact hb x (by simp [hx])
          · intro a ha
            obtain ⟨x, hx, rfl⟩ := List.mem_map.1 ha
            split
            · rw [Nat.testBit_xor, hc x (by simp [hx]), hc e (by simp)]; rfl
            · exact hc x (by simp [hx])

theorem pivots_low {w : Nat} : ∀ (k : Nat) (es : List Nat), es.length ≤ k → (∀ e ∈ es, e < 2 ^ w) →
    Low w ((pivots w k es).map fun r => (r, lead w r)) ∧ ∀ X, Sol w (pivots w k es) X ↔ Sol w es X := by
  intro k
  induction k with
  | zero =>
    intro es hl _
    have : es = [] := by cases es with | nil => rfl | cons a l => simp at hl
    subst this
    exact ⟨⟨by simp [pivots], by simp [pivots]⟩, fun X => by simp [pivots]⟩
  | succ k ih =>
    intro es hl hb
    cases es with
    | nil => exact ⟨⟨by simp [pivots], by simp [pivots]⟩, fun X => by simp [pivots]⟩
    | cons e es =>
      simp only [pivots]
      by_cases h0 : e = 0
      · rw [if_pos h0]
        obtain ⟨a1, a2⟩ := ih es (by simpa using hl) (fun a ha => hb a (by simp [ha]))
        refine ⟨a1, fun X => ?_⟩
        rw [a2 X]
        constructor
        · rintro ⟨x1, x2, x3⟩
          refine ⟨x1, x2, fun a ha => ?_⟩
          rcases List.mem_cons.1 ha with rfl | ha
          · rw [h0]; simp [par_zero]
          · exact x3 a ha
        · rintro ⟨x1, x2, x3⟩
          exact ⟨x1, x2, fun a ha => x3 a (by simp [ha])⟩
      · rw [if_neg h0]
        have he := hb e (by simp)
        have hlt := lead_lt he h0
        have hbit := lead_bit hlt
        generalize hE : (es.map fun x => if x.testBit (lead w e) then x ^^^ e else x) = es'
        have hb' : ∀ a ∈ es', a < 2 ^ w := by
          rw [← hE]; intro a ha
          obtain ⟨x, hx, rfl⟩ := List.mem_map.1 ha
          split
          · exact Nat.xor_lt_two_pow (hb x (by simp [hx])) he
          · exact hb x (by simp [hx])
        have hz : ∀ a ∈ es', a.testBit (lead w e) = false := by
          rw [← hE]; intro a ha
          obtain ⟨x, hx, rfl⟩ := List.mem_map.1 ha
          cases hxb : x.testBit (lead w e) with
          | false => simpa using hxb
          | true => simp only [if_true]; rw [Nat.testBit_xor, hxb, hbit]; rfl
        have hl' : es'.length ≤ k := by rw [← hE]; simpa using hl
        obtain ⟨a1, a2⟩ := ih es' hl' hb'
        have hp := pivots_spec k es' hl' hb' (lead w e) hz
        refine ⟨⟨?_, ?_⟩, ?_⟩
        · intro p hp'
          rw [List.map_cons] at hp'
          rcases List.mem_cons.1 hp' with rfl | hp'
          · exact ⟨by rw [Nat.pow_succ]; omega, hlt, hbit, fun i hi => lead_low hi⟩
          · exact a1.ok p hp'
        · rw [List.map_cons, List.map_cons, List.nodup_cons]
          refine ⟨?_, a1.dis⟩
          intro hm
          rw [List.map_map] at hm
          obtain ⟨q, hq, hqe⟩ := List.mem_map.1 hm
          obtain ⟨q1, q2, q3⟩ := hp q hq
          have hqb := lead_bit (lead_lt q1 q2)
          simp only [Function.comp] at hqe
          rw [hqe, q3] at hqb; exact absurd hqb (by decide)
        · intro X
          have hx : par (e &&& X) = 0 → ∀ x, par ((if x.testBit (lead w e) then x ^^^ e else x) &&& X) = par (x &&& X) := by
            intro h x
            split
            · rw [Nat.and_xor_distrib_right, par_xor, h]; simp
            · rfl
          constructor
          · rintro ⟨x1, x2, x3⟩
            have h1 := x3 e (by simp)
            have h2 := ((a2 X).1 ⟨x1, x2, fun a ha => x3 a (by simp [ha])⟩).2.2
            refine ⟨x1, x2, fun a ha => ?_⟩
            rcases List.mem_cons.1 ha with rfl | ha
            · exact h1
            · rw [← hx h1 a]; exact h2 _ (by rw [← hE]; exact List.mem_map.2 ⟨a, ha, rfl⟩)
          · rintro ⟨x1, x2, x3⟩
            have h1 := x3 e (by simp)
            have h2 := ((a2 X).2 ⟨x1, x2, fun a ha => by
              rw [← hE] at ha
              obtain ⟨x, hx', rfl⟩ := List.mem_map.1 ha
              rw [hx h1 x]; exact x3 x (by simp [hx'])⟩).2.2
            refine ⟨x1, x2, fun a ha => ?_⟩
            rcases List.mem_cons.1 ha with rfl | ha
            · exact h1
            · exact h2 a ha

theorem low_len {w : Nat} {F : List (Nat × Nat)} (h : Low w F) : frees (F.map Prod.snd) w + F.length = w := by
  have := frees_eq (w := w) (F.map Prod.snd) h.dis (fun c hc => by obtain ⟨p, hp, rfl⟩ := List.mem_map.1 hc; exact (h.ok p hp).2.1)
  simpa using this

/-- Equations with right sides 0: two families with different least unknowns and the same solutions are as many. -/
theorem low_same {w : Nat} (hw : w < 64) {es : List Nat} (hb : ∀ e ∈ es, e < 2 ^ w) {F G : List (Nat × Nat)} (hF : Low w F) (hG : Low w G)
    (h1 : ∀ X, Sol w es X ↔ Sol w (F.map Prod.fst) X) (h2 : ∀ X, Sol w es X ↔ Sol w (G.map Prod.fst) X) : F.length = G.length := by
  have hX : Sol w es (2 ^ w) := by
    refine ⟨Nat.pow_lt_pow_right (by decide) (by omega), Nat.testBit_two_pow_self, fun e he => ?_⟩
    rw [and_two_pow, Nat.testBit_lt_two_pow (hb e he)]; simp [par_zero]
  have h0 : ∀ i, i < w → (2 ^ w).testBit i = false := by intro i hi; rw [Nat.testBit_two_pow]; simp; omega
  have hb' : ∀ e ∈ es, e < 2 ^ (w + 1) := fun e he => by have := hb e he; rw [Nat.pow_succ]; omega
  have hs : ∀ X, Sol w es X ↔ Sol w es X ∧ ∀ i, w ≤ i → X.testBit i = (2 ^ w).testBit i := by
    intro X
    refine ⟨fun hs => ⟨hs, ?_⟩, fun hs => hs.1⟩
    intro i hi
    by_cases h1 : i = w
    · subst h1; rw [hs.2.1, hX.2.1]
    · rw [Nat.testBit_lt_two_pow (Nat.lt_of_lt_of_le hs.1 (Nat.pow_le_pow_right (by decide) (by omega))), Nat.testBit_lt_two_pow (Nat.lt_of_lt_of_le hX.1 (Nat.pow_le_pow_right (by decide) (by omega)))]
  have g1 := greedy_spec hw hF (es0 := es) h1 hX (fun i hi _ => h0 i hi) w (Nat.le_refl _) es 0 hb' hs
  have g2 := greedy_spec hw hG (es0 := es) h2 hX (fun i hi _ => h0 i hi) w (Nat.le_refl _) es 0 hb' hs
  rw [g1] at g2
  have e := (Prod.mk.inj g2).2
  have := low_len hF
  have := low_len hG
  omega

/-- The two ranks are the same. -/
theorem rank_eq {w : Nat} (hw : w < 64) {es : List Nat} (hb : ∀ e ∈ es, e < 2 ^ w) {rows : List Nat} (h : addAll w [] es = some rows) : rows.length = (pivots w es.length es).length := by
  obtain ⟨p1, p2⟩ := pivots_low es.length es (Nat.le_refl _) hb
  obtain ⟨_, _, _, r1, r2⟩ := (addAll_can hw (es := es) (fun e he => by have := hb e he; rw [Nat.pow_succ]; omega)).2 rows h
  have := low_same hw hb r1.low p1 (fun X => by rw [map_fst]; exact (r2 X).symm) (fun X => by rw [map_fst]; exact (p2 X).symm)
  simpa using this

/-- Equations with right sides 0 can be added. -/
theorem addAll_zero {w : Nat} (hw : w < 64) {es : List Nat} (hb : ∀ e ∈ es, e < 2 ^ w) : ∃ rows, addAll w [] es = some rows := by
  cases h : addAll w [] es with
  | some rows => exact ⟨rows, rfl⟩
  | none =>
    exfalso
    have hb' : ∀ e ∈ es, e < 2 ^ (w + 1) := fun e he => by have := hb e he; rw [Nat.pow_succ]; omega
    have := (addAll_can hw hb').1 h
    rw [Bool.eq_false_iff] at this
    apply this
    rw [can_iff hw hb']
    refine ⟨2 ^ w, Nat.pow_lt_pow_right (by decide) (by omega), Nat.testBit_two_pow_self, fun e he => ?_⟩
    rw [and_two_pow, Nat.testBit_lt_two_pow (hb e he)]; simp [par_zero]

theorem reduced_flip {w : Nat} {rows : List Nat} (h : ∀ r ∈ rows, lead w r < w) (row : Nat) : reduced w rows (row ^^^ 2 ^ w) = reduced w rows row ^^^ 2 ^ w := by
  induction rows generalizing row with
  | nil => rfl
  | cons a rows ih =>
    have ha := h a (by simp)
    have e : ∀ r, reduced w (a :: rows) r = reduced w rows (if r.testBit (lead w a) then r ^^^ a else r) := fun _ => rfl
    rw [e, e, testBit_flip]
    have : ¬ w = lead w a := by omega
    simp only [this, decide_false, Bool.xor_false]
    rw [← ih (fun r hr => h r (by simp [hr]))]
    cases row.testBit (lead w a)
    · rfl
    · simp only [if_true]
      rw [Nat.xor_assoc, Nat.xor_comm (2 ^ w) a, ← Nat.xor_assoc]

theorem lead_flip {w r : Nat} : lead w (r ^^^ 2 ^ w) = lead w r := by
  have hbit : ∀ i, i < w → (r ^^^ 2 ^ w).testBit i = r.testBit i := by
    intro i hi
    rw [testBit_flip]
    have : ¬ w = i := by omega
    simp [this]
  by_cases h : lead w r < w
  · exact lead_eq h (by rw [hbit _ h]; exact lead_bit h) fun i hi => by rw [hbit i (by omega)]; exact lead_low hi
  · have h1 := lead_le w r
    have h2 := lead_le w (r ^^^ 2 ^ w)
    by_cases h3 : lead w (r ^^^ 2 ^ w) < w
    · exfalso
      have := lead_bit h3
      rw [hbit _ h3, lead_low (w := w) (by omega)] at this
      exact absurd this (by decide)
    · omega

/-- What all solutions agree about. -/
theorem predict {w : Nat} (hw : w < 64) {es rows : List Nat} (hb : ∀ e ∈ es, e < 2 ^ (w + 1)) (h : addAll w [] es = some rows) {mask : Nat} (hm : mask < 2 ^ w) :
    (lead w (reduced w rows mask) < w → can w (es ++ [mask]) = true ∧ can w (es ++ [mask ||| 2 ^ w]) = true) ∧
    (lead w (reduced w rows mask) = w → can w (es ++ [mask]) = decide (reduced w rows mask / 2 ^ w = 0) ∧ can w (es ++ [mask ||| 2 ^ w]) = decide (reduced w rows mask / 2 ^ w = 1)) := by
  obtain ⟨_, _, _, r1, r2⟩ := (addAll_can hw hb).2 rows h
  have hm' : mask < 2 ^ (w + 1) := by rw [Nat.pow_succ]; omega
  have hor : mask ||| 2 ^ w = mask ^^^ 2 ^ w := by
    apply Nat.eq_of_testBit_eq
    intro i
    rw [Nat.testBit_or, Nat.testBit_xor, Nat.testBit_two_pow]
    by_cases h1 : w = i
    · subst h1; rw [Nat.testBit_lt_two_pow hm]; simp
    · simp [h1]
  have hm2 : mask ^^^ 2 ^ w < 2 ^ (w + 1) := Nat.xor_lt_two_pow hm' (Nat.pow_lt_pow_right (by decide) (by omega))
  have hap : ∀ m, m < 2 ^ (w + 1) → ∀ e ∈ es ++ [m], e < 2 ^ (w + 1) := by
    intro m hm e he
    rcases List.mem_append.1 he with he | he
    · exact hb e he
    · rw [List.mem_singleton.1 he]; exact hm
  have hsol : ∀ m X, Sol w (es ++ [m]) X ↔ Sol w (m :: rows) X := by
    intro m X
    constructor
    · rintro ⟨x1, x2, x3⟩
      have := ((r2 X).2 ⟨x1, x2, fun a ha => x3 a (by simp [ha])⟩).2.2
      refine ⟨x1, x2, fun a ha => ?_⟩
      rcases List.mem_cons.1 ha with rfl | ha
      · exact x3 _ (by simp)
      · exact this a ha
    · rintro ⟨x1, x2, x3⟩
      have := ((r2 X).1 ⟨x1, x2, fun a ha => x3 a (by simp [ha])⟩).2.2
      refine ⟨x1, x2, fun a ha => ?_⟩
      rcases List.mem_append.1 ha with ha | ha
      · exact this a ha
      · rw [List.mem_singleton.1 ha]; exact x3 m (by simp)
  have some_can : ∀ m rows', m < 2 ^ (w + 1) → add w rows m = some rows' → can w (es ++ [m]) = true := by
    intro m rows' hm ha
    obtain ⟨a1, a2⟩ := add_some r1 hm ha
    rw [can_iff hw (hap m hm)]
    refine ⟨least w rows' ||| 2 ^ w, ?_⟩
    rw [hsol, ← a2]
    exact (least_sol hw a1).1
  have none_can : ∀ m, m < 2 ^ (w + 1) → add w rows m = none → can w (es ++ [m]) = false := by
    intro m hm ha
    rw [Bool.eq_false_iff]
    intro hc
    obtain ⟨X, hX⟩ := (can_iff hw (hap m hm)).1 hc
    exact add_none hw r1 hm ha ⟨X, (hsol m X).1 hX⟩
  have hfl := reduced_flip (w := w) (rows := rows) (fun r hr => (r1.ok r hr).2) mask
  obtain ⟨q1, _, _⟩ := reduced_spec r1 hm'
  rw [hor]
  constructor
  · intro hl
    constructor
    · refine some_can mask (rows.map (fun o => if o.testBit (lead w (reduced w rows mask)) then o ^^^ reduced w rows mask else o) ++ [reduced w rows mask]) hm' ?_
      simp only [add]; rw [if_neg (by omega)]
    · refine some_can (mask ^^^ 2 ^ w) (rows.map (fun o => if o.testBit (lead w (reduced w rows (mask ^^^ 2 ^ w))) then o ^^^ reduced w rows (mask ^^^ 2 ^ w) else o) ++ [reduced w rows (mask ^^^ 2 ^ w)]) hm2 ?_
      simp only [add]; rw [if_neg]; rw [hfl, lead_flip]; omega
  · intro hl
    have hn := no_lead q1 hl
    have hd := div_top q1
    generalize hR : reduced w rows mask = R at *
    cases hb' : R.testBit w with
    | false =>
      rw [hb'] at hn hd
      simp only [Bool.false_eq_true, if_false] at hn hd
      rw [hd]
      constructor
      · rw [some_can mask rows hm' (by simp only [add]; rw [hR, if_pos hl, if_pos hn])]; rfl
      · rw [none_can _ hm2 (by
          simp only [add]; rw [hfl, lead_flip, if_pos hl, if_neg]
          rw [hn, Nat.zero_xor]; exact Nat.ne_of_gt (Nat.two_pow_pos w))]; rfl
    | true =>
      rw [hb'] at hn hd
      simp only [if_true] at hn hd
      rw [hd]
      constructor
      · rw [none_can mask hm' (by
          simp only [add]; rw [hR, if_pos hl, if_neg]
          rw [hn]; exact Nat.ne_of_gt (Nat.two_pow_pos w))]; rfl
      · rw [some_can _ rows hm2 (by
          simp only [add]; rw [hfl, lead_flip, if_pos hl, if_pos]
          rw [hn, Nat.xor_self])]; rfl

end Go.Wd
/- Jumps of a linear machine, and the machine of shifts. -/
namespace Go.Wd

/-- The state after n steps, by squares. -/
def jump : Nat → List Nat → Nat → Nat → Nat
  | 0, _, s, _ => s
  | k + 1, rows, s, n => if n = 0 then s else jump k (times rows rows) (if n % 2 = 1 then app rows s else s) (n / 2)

/-- The rows of n steps, by squares. -/
def power : Nat → List Nat → List Nat → Nat → List Nat
  | 0, _, out, _ => out
  | k + 1, rows, out, n => if n = 0 then out else power k (times rows rows) (if n % 2 = 1 then times out rows else out) (n / 2)

theorem times_length (a b : List Nat) : (times a b).length = b.length := by simp [times]

theorem app_power (k : Nat) : ∀ (rows out : List Nat) (s n : Nat), rows.length ≤ 64 → out.length ≤ 64 → app (power k rows out n) s = jump k rows (app out s) n := by
  induction k with
  | zero => intro rows out s n _ _; rfl
  | succ k ih =>
    intro rows out s n hr ho
    simp only [power, jump]
    by_cases h : n = 0
    · simp [h]
    · simp only [h, if_false]
      by_cases h1 : n % 2 = 1
      · simp only [h1, if_true]
        rw [ih _ _ _ _ (by rw [times_length]; exact hr) (by rw [times_length]; exact hr), app_times _ _ _ ho]
      · simp only [h1, if_false]
        exact ih _ _ _ _ (by rw [times_length]; exact hr) ho

theorem par_bit {c : Nat} (hc : c < 64) (e : Nat) : par (e &&& 2 ^ c) = if e.testBit c then 1 else 0 := by
  rw [and_two_pow]; cases e.testBit c
  · simp [par_zero]
  · simp [par_two_pow hc]

theorem app_testBit (rows : List Nat) (s i : Nat) : (app rows s).testBit i = (decide (i < rows.length) && decide (par (rows.getD i 0 &&& s) = 1)) := by
  induction rows generalizing i with
  | nil => simp [app]
  | cons r rows ih =>
    have hp := par_lt (r &&& s)
    cases i with
    | zero =>
      simp only [app, Nat.testBit_zero, List.length_cons, List.getD_cons_zero]
      have : (par (r &&& s) + 2 * app rows s) % 2 = par (r &&& s) := by omega
      rw [this]; simp
    | succ i =>
      simp only [app, Nat.testBit_succ, List.length_cons, List.getD_cons_succ]
      have : (par (r &&& s) + 2 * app rows s) / 2 = app rows s := by omega
      rw [this, ih]; simp

theorem units_length (a k : Nat) : (units a k).length = k := by
  induction k generalizing a with
  | zero => rfl
  | succ k ih => simp [units, ih]

theorem units_getD (a k i : Nat) (h : i < k) : (units a k).getD i 0 = 2 ^ (a + i) := by
  induction k generalizing a i with
  | zero => omega
  | succ k ih =>
    cases i with
    | zero => simp [units]
    | succ i =>
      simp only [units, List.getD_cons_succ]
      rw [ih (a + 1) i (by omega)]; congr 1; omega

theorem app_units {w s : Nat} (hw : w ≤ 64) (h : s < 2 ^ w) : app (units 0 w) s = s := by
  apply Nat.eq_of_testBit_eq
  intro i
  rw [app_testBit, units_length]
  by_cases hi : i < w
  · rw [units_getD 0 w i hi, Nat.zero_add, Nat.and_comm, par_bit (by omega)]
    cases s.testBit i <;> simp [hi]
  · rw [Nat.testBit_lt_two_pow (Nat.lt_of_lt_of_le h (Nat.pow_le_pow_right (by decide) (by omega)))]
    simp [hi]

/-- The row i of a move up by some bits. -/
def upRow (b i : Nat) : Nat := 2 ^ i ^^^ (if b ≤ i then 2 ^ (i - b) else 0)
/-- The row i of a move down by some bits, of a width. -/
def downRow (w b i : Nat) : Nat := 2 ^ i ^^^ (if i + b < w then 2 ^ (i + b) else 0)

theorem getD_map_range (f : Nat → Nat) (w i : Nat) (h : i < w) : ((List.range w).map f).getD i 0 = f i := by
  simp [List.getD, h]

theorem app_up {w b s : Nat} (hw : w ≤ 64) (hs : s < 2 ^ w) : app ((List.range w).map (upRow b)) s = s ^^^ (s * 2 ^ b % 2 ^ w) := by
  apply Nat.eq_of_testBit_eq
  intro i
  rw [app_testBit, Nat.testBit_xor, Nat.testBit_mod_two_pow, Nat.testBit_mul_two_pow]
  simp only [List.length_map, List.length_range]
  by_cases hi : i < w
  · rw [getD_map_range _ _ _ hi]
    have e : par (upRow b i &&& s) = (if s.testBit i then 1 else 0) ^^^ (if b ≤ i then (if s.testBit (i - b) then 1 else 0) else 0) := by
      unfold upRow
      rw [Nat.and_xor_distrib_right, par_xor, Nat.and_comm, par_bit (by omega)]
      by_cases hb : b ≤ i
      · simp only [hb, if_true]
        rw [Nat.and_comm, par_bit (by omega)]
      · simp only [hb, if_false, Nat.zero_and, par_zero]
    rw [e]
    by_cases hb : b ≤ i
    · cases s.testBit i <;> cases s.testBit (i - b) <;> simp [hi, hb]
    · cases s.testBit i <;> simp [hb, hi]
  · rw [Nat.testBit_lt_two_pow (Nat.lt_of_lt_of_le hs (Nat.pow_le_pow_right (by decide) (by omega)))]
    simp [hi]

theorem app_down {w b s : Nat} (hw : w ≤ 64) (hs : s < 2 ^ w) : app ((List.range w).map (downRow w b)) s = s ^^^ (s / 2 ^ b) := by
  have hz : ∀ j, w ≤ j → s.testBit j = false := fun j hj => Nat.testBit_lt_two_pow (Nat.lt_of_lt_of_le hs (Nat.pow_le_pow_right (by decide) hj))
  apply Nat.eq_of_testBit_eq
  intro i
  rw [app_testBit, Nat.testBit_xor, Nat.testBit_div_two_pow]
  simp only [List.length_map, List.length_range]
  by_cases hi : i < w
  · rw [getD_map_range _ _ _ hi]
    have e : par (downRow w b i &&& s) = (if s.testBit i then 1 else 0) ^^^ (if i + b < w then (if s.testBit (i + b) then 1 else 0) else 0) := by
      unfold downRow
      rw [Nat.and_xor_distrib_right, par_xor, Nat.and_comm, par_bit (by omega)]
      by_cases hb : i + b < w
      · simp only [hb, if_true]
        rw [Nat.and_comm, par_bit (by omega)]
      · simp only [hb, if_false, Nat.zero_and, par_zero]
    rw [e]
    by_cases hb : i + b < w
    · cases s.testBit i <;> cases s.testBit (i + b) <;> simp [hb, hi]
    · rw [hz (i + b) (by omega)]
      cases s.testBit i <;> simp [hb, hi]
  · rw [hz i (by omega), hz (i + b) (by omega)]
    simp [hi]

theorem comb_lt {w : Nat} (rows : List Nat) (h : ∀ r ∈ rows, r < 2 ^ w) (m : Nat) : comb rows m < 2 ^ w := by
  induction rows generalizing m with
  | nil => simp [comb, Nat.two_pow_pos]
  | cons r rows ih =>
    simp only [comb]
    refine Nat.xor_lt_two_pow ?_ (ih (fun a ha => h a (by simp [ha])) _)
    split
    · exact h r (by simp)
    · exact Nat.two_pow_pos w

/-- Rows are told by what they make of single bits. -/
theorem rows_ext {w : Nat} (hw : w ≤ 64) {a b : List Nat} (hl : a.length = b.length) (ha : ∀ r ∈ a, r < 2 ^ w) (hb : ∀ r ∈ b, r < 2 ^ w) (h : ∀ k, k < w → app a (2 ^ k) = app b (2 ^ k)) : a = b := by
  apply List.ext_getElem hl
  intro i h1 h2
  have m1 := ha _ (List.getElem_mem h1)
  have m2 := hb _ (List.getElem_mem h2)
  apply Nat.eq_of_testBit_eq
  intro k
  by_cases hk : k < w
  · have := congrArg (·.testBit i) (h k hk)
    simp only [app_testBit, h1, h2, decide_true, Bool.true_and] at this
    rw [show a.getD i 0 = a[i] by simp [List.getD, h1], show b.getD i 0 = b[i] by simp [List.getD, h2], par_bit (by omega), par_bit (by omega)] at this
    cases hx : a[i].testBit k <;> cases hy : b[i].testBit k <;> simp [hx, hy] at this ⊢
  · rw [Nat.testBit_lt_two_pow (Nat.lt_of_lt_of_le m1 (Nat.pow_le_pow_right (by decide) (by omega))), Nat.testBit_lt_two_pow (Nat.lt_of_lt_of_le m2 (Nat.pow_le_pow_right (by decide) (by omega)))]

end Go.Wd
/- Words: a number and its opposite share the least bit that is 1. -/
namespace Go.Wd

theorem sub_one_testBit : ∀ (l u : Nat), u.testBit l = true → (∀ i, i < l → u.testBit i = false) → ∀ i, (u - 1).testBit i = if i < l then true else if i = l then false else u.testBit i := by
  intro l
  induction l with
  | zero =>
    intro u h _ i
    simp only [Nat.testBit_zero, decide_eq_true_eq] at h
    cases i with
    | zero => simp; omega
    | succ i =>
      rw [Nat.testBit_succ, Nat.testBit_succ, show (u - 1) / 2 = u / 2 by omega]; simp
  | succ l ih =>
    intro u h h0 i
    have e0 := h0 0 (by omega)
    simp only [Nat.testBit_zero, decide_eq_false_iff_not] at e0
    rw [Nat.testBit_succ] at h
    have hp : 0 < u / 2 := by
      cases hz : u / 2 with
      | zero => rw [hz] at h; simp at h
      | succ n => omega
    cases i with
    | zero => simp; omega
    | succ i =>
      rw [Nat.testBit_succ, Nat.testBit_succ, show (u - 1) / 2 = u / 2 - 1 by omega, ih (u / 2) h (fun i hi => by have := h0 (i + 1) (by omega); rwa [Nat.testBit_succ] at this)]
      simp

theorem and_neg_lead {w u : Nat} (hu : u < 2 ^ 63) (hw : w ≤ 63) (hl : lead w u < w) : u &&& (2 ^ 64 - u) = 2 ^ lead w u := by
  have hb := lead_bit hl
  have hpos : 0 < u := by
    cases u with
    | zero => simp at hb
    | succ n => omega
  apply Nat.eq_of_testBit_eq
  intro i
  have e : (2 ^ 64 - u).testBit i = (decide (i < 64) && !(u - 1).testBit i) := by
    rw [show 2 ^ 64 - u = 2 ^ 64 - ((u - 1) + 1) by omega]
    exact Nat.testBit_two_pow_sub_succ (by omega) i
  rw [Nat.testBit_and, e, sub_one_testBit _ u hb (fun i hi => lead_low hi) i, Nat.testBit_two_pow]
  by_cases h1 : i < lead w u
  · simp [h1]; omega
  · by_cases h2 : i = lead w u
    · subst h2; rw [hb]; simp; omega
    · have h3 : ¬ lead w u = i := fun h => h2 h.symm
      simp only [h1, h2, h3, if_false]
      cases u.testBit i <;> simp

theorem neg_bits {u : Nat} (h0 : 0 < u) (hu : u < 2 ^ 63) : (BitVec.ofInt 64 (u : Int) &&& BitVec.ofInt 64 (-(u : Int))).toNat = u &&& (2 ^ 64 - u) := by
  rw [BitVec.toNat_and]
  congr 1
  · rw [BitVec.toNat_ofInt]; omega
  · rw [BitVec.toNat_ofInt]; omega

end Go.Wd
/- Words: the seeds that show what is seen lie in one block of 256. -/
namespace Go.Wd

theorem filter_block {p : Nat → Bool} {s n : Nat} (hn : 256 * s + 256 ≤ n) (hp : ∀ x, p x = true → x / 256 = s) :
    (List.range n).filter p = ((List.range 256).map fun i => 256 * s + i).filter p := by
  obtain ⟨r, rfl⟩ : ∃ r, n = 256 * s + 256 + r := ⟨n - (256 * s + 256), by omega⟩
  rw [List.range_add, List.range_add, List.filter_append, List.filter_append]
  have h1 : (List.range (256 * s)).filter p = [] := by
    rw [List.filter_eq_nil_iff]
    intro x hx h
    have := hp x h
    have := List.mem_range.1 hx
    omega
  have h2 : ((List.range r).map fun i => 256 * s + 256 + i).filter p = [] := by
    rw [List.filter_eq_nil_iff]
    intro x hx h
    obtain ⟨i, _, rfl⟩ := List.mem_map.1 hx
    have := hp _ h
    omega
  rw [h1, h2]; simp

theorem and_word (n : Nat) : n &&& 65535 = n % 65536 := Nat.and_two_pow_sub_one_eq_mod n 16

end Go.Wd
/- Words: the machine of three shifts, by rows and by what becomes of single bits. -/
namespace Go.Wd

/-- What becomes of a state by three shifts. -/
def shifts (w a b c x : Nat) : Nat :=
  let y := x ^^^ (x * 2 ^ a % 2 ^ w)
  let z := y ^^^ (y / 2 ^ b)
  z ^^^ (z * 2 ^ c % 2 ^ w)

theorem xor_up_lt {w x : Nat} (a : Nat) (h : x < 2 ^ w) : x ^^^ (x * 2 ^ a % 2 ^ w) < 2 ^ w := Nat.xor_lt_two_pow h (Nat.mod_lt _ (Nat.two_pow_pos w))
theorem xor_down_lt {w x : Nat} (b : Nat) (h : x < 2 ^ w) : x ^^^ (x / 2 ^ b) < 2 ^ w := Nat.xor_lt_two_pow h (Nat.lt_of_le_of_lt (Nat.div_le_self _ _) h)
theorem shifts_lt {w x : Nat} (a b c : Nat) (h : x < 2 ^ w) : shifts w a b c x < 2 ^ w := xor_up_lt _ (xor_down_lt _ (xor_up_lt _ h))

/-- The row i of the bits below k. -/
def bitRow (w a b c i : Nat) : Nat → Nat
  | 0 => 0
  | k + 1 => bitRow w a b c i k ||| (shifts w a b c (2 ^ k) / 2 ^ i % 2) * 2 ^ k

theorem bitRow_testBit (w a b c i k j : Nat) : (bitRow w a b c i k).testBit j = (decide (j < k) && (shifts w a b c (2 ^ j)).testBit i) := by
  induction k with
  | zero => simp [bitRow]
  | succ k ih =>
    simp only [bitRow]
    rw [Nat.testBit_or, ih, Nat.testBit_mul_two_pow]
    by_cases h : j = k
    · subst h
      rw [testBit_eq (shifts w a b c (2 ^ j))]
      have h2 : shifts w a b c (2 ^ j) / 2 ^ i % 2 = 0 ∨ shifts w a b c (2 ^ j) / 2 ^ i % 2 = 1 := by omega
      rcases h2 with h2 | h2 <;> simp [h2]
    · by_cases h1 : j < k
      · have : ¬ k ≤ j := by omega
        simp [h1, this]; omega
      · have e1 : ¬ j < k + 1 := by omega
        have e2 : k ≤ j := by omega
        obtain ⟨d, hd⟩ : ∃ d, j - k = d + 1 := ⟨j - k - 1, by omega⟩
        have h3 : (shifts w a b c (2 ^ k) / 2 ^ i % 2).testBit (d + 1) = false := by
          apply Nat.testBit_lt_two_pow
          have : 2 ^ 1 ≤ 2 ^ (d + 1) := Nat.pow_le_pow_right (by decide) (by omega)
          omega
        rw [hd, h3]; simp [h1, e1]

theorem bitRow_lt (w a b c i : Nat) : ∀ k, bitRow w a b c i k < 2 ^ k := by
  intro k
  apply Nat.lt_pow_two_of_testBit
  intro j hj
  rw [bitRow_testBit]
  have : ¬ j < k := by omega
  simp [this]

theorem times_lt {w : Nat} (first then_ : List Nat) (h : ∀ r ∈ first, r < 2 ^ w) : ∀ r ∈ times first then_, r < 2 ^ w := by
  intro r hr
  obtain ⟨m, _, rfl⟩ := List.mem_map.1 hr
  exact comb_lt first h m

theorem units_lt : ∀ (k a : Nat), ∀ r ∈ units a k, r < 2 ^ (a + k) := by
  intro k
  induction k with
  | zero => intro a r hr; simp [units] at hr
  | succ k ih =>
    intro a r hr
    simp only [units] at hr
    rcases List.mem_cons.1 hr with rfl | hr
    · exact Nat.pow_lt_pow_right (by decide) (by omega)
    · have := ih (a + 1) r hr
      rwa [show a + 1 + k = a + (k + 1) by omega] at this

theorem xorshift {w : Nat} (hw : w ≤ 64) (a b c : Nat) :
    times (times (times (units 0 w) ((List.range w).map (upRow a))) ((List.range w).map (downRow w b))) ((List.range w).map (upRow c)) = (List.range w).map fun i => bitRow w a b c i w := by
  have l0 : (units 0 w).length = w := units_length 0 w
  have u0 : ∀ r ∈ units 0 w, r < 2 ^ w := by intro r hr; have := units_lt w 0 r hr; rwa [Nat.zero_add] at this
  refine rows_ext hw (by simp [times]) (times_lt _ _ (times_lt _ _ (times_lt _ _ u0))) ?_ ?_
  · intro r hr
    obtain ⟨i, _, rfl⟩ := List.mem_map.1 hr
    exact bitRow_lt w a b c i w
  · intro k hk
    have hk2 : 2 ^ k < 2 ^ w := Nat.pow_lt_pow_right (by decide) hk
    rw [app_times _ _ _ (by simp [times]; omega), app_times _ _ _ (by simp [times]; omega), app_times _ _ _ (by omega), app_units hw hk2, app_up hw hk2,
      app_down hw (xor_up_lt a hk2), app_up hw (xor_down_lt b (xor_up_lt a hk2))]
    show shifts w a b c (2 ^ k) = _
    apply Nat.eq_of_testBit_eq
    intro i
    rw [app_testBit]
    simp only [List.length_map, List.length_range]
    by_cases hi : i < w
    · rw [getD_map_range _ _ _ hi, par_bit (by omega), bitRow_testBit]
      cases (shifts w a b c (2 ^ k)).testBit i <;> simp [hi, hk]
    · rw [Nat.testBit_lt_two_pow (Nat.lt_of_lt_of_le (shifts_lt a b c hk2) (Nat.pow_le_pow_right (by decide) (by omega)))]
      simp [hi]

end Go.Wd
/- Words: the least solution by trying bits, without the count of free bits. -/
namespace Go.Wd

def greedyL (w : Nat) : Nat → List Nat → Nat → Nat
  | 0, _, out => out
  | c + 1, es, out => if can w (es ++ [2 ^ c]) then greedyL w c (es ++ [2 ^ c]) out else greedyL w c (es ++ [2 ^ c ||| 2 ^ w]) (out ||| 2 ^ c)

theorem greedyL_eq (w : Nat) : ∀ (k : Nat) (es : List Nat) (out free : Nat), greedyL w k es out = (greedy w k es out free).1 := by
  intro k
  induction k with
  | zero => intro es out free; rfl
  | succ k ih =>
    intro es out free
    simp only [greedyL, greedy]
    cases can w (es ++ [2 ^ k])
    · simp only [Bool.false_and, Bool.false_eq_true, if_false]; exact ih _ _ _
    · simp only [Bool.true_and, if_true]; exact ih _ _ _

theorem greedyL_least {w : Nat} (hw : w < 64) {es rows : List Nat} (hb : ∀ e ∈ es, e < 2 ^ (w + 1)) (h : addAll w [] es = some rows) : greedyL w w es 0 = least w rows := by
  rw [greedyL_eq w w es 0 0, ((addAll_can hw hb).2 rows h).2.1]

theorem can_addAll {w : Nat} (hw : w < 64) {es : List Nat} (hb : ∀ e ∈ es, e < 2 ^ (w + 1)) : can w es = (addAll w [] es).isSome := by
  cases h : addAll w [] es with
  | none => exact (addAll_can hw hb).1 h
  | some rows => exact ((addAll_can hw hb).2 rows h).1

end Go.Wd
/- Words in the abstract interpreter: operations on bits of numbers that are not negative. -/
namespace Go.Abs
open Go

theorem small_nat (k : IntKind) {a b : Nat} (ha : a ≤ topOf k) (hb : b ≤ topOf k) : smallNat k (a : Int) (b : Int) = some (a, b) := by
  show (bif Nat.ble a (topOf k) && Nat.ble b (topOf k) then some (a, b) else none) = _
  have h1 : Nat.ble a (topOf k) = true := by rw [Nat.ble_eq]; exact ha
  have h2 : Nat.ble b (topOf k) = true := by rw [Nat.ble_eq]; exact hb
  rw [h1, h2]; rfl

theorem w_and (k : IntKind) {a b : Nat} (ha : a ≤ topOf k) (hb : b ≤ topOf k) : bitsA .and k (a : Int) (b : Int) = some (.int k ((a &&& b : Nat) : Int)) := by
  simp only [bitsA, small_nat k ha hb]; rfl
theorem w_or (k : IntKind) {a b : Nat} (ha : a ≤ topOf k) (hb : b ≤ topOf k) : bitsA .or k (a : Int) (b : Int) = some (.int k ((a ||| b : Nat) : Int)) := by
  simp only [bitsA, small_nat k ha hb]; rfl
theorem w_xor (k : IntKind) {a b : Nat} (ha : a ≤ topOf k) (hb : b ≤ topOf k) : bitsA .xor k (a : Int) (b : Int) = some (.int k ((a ^^^ b : Nat) : Int)) := by
  simp only [bitsA, small_nat k ha hb]; rfl
theorem w_shr (a n : Nat) : shrA (a : Int) n = ((a / 2 ^ n : Nat) : Int) := rfl
theorem w_shl (a n : Nat) : shlA (a : Int) n = ((a * 2 ^ n : Nat) : Int) := rfl
theorem w_wrap (k : IntKind) {n : Nat} (h : n ≤ topOf k) : wrapA k (n : Int) = n := by
  rw [wrapA_eq]; exact wrap_small k h

end Go.Abs
/- Words in the abstract interpreter: operations with names that the simplifier leaves alone. -/
namespace Go.Abs
open Go

def pw (b : Nat) : Nat := 2 ^ b
def shrN (a n : Nat) : Nat := a / 2 ^ n
def shlN (a n : Nat) : Nat := a * 2 ^ n
def andN (a b : Nat) : Nat := a &&& b
def orN (a b : Nat) : Nat := a ||| b
def xorN (a b : Nat) : Nat := a ^^^ b
def addN (a b : Nat) : Nat := a + b
def subN (a b : Nat) : Nat := a - b
def mulN (a b : Nat) : Nat := a * b
def divN (a b : Nat) : Nat := a / b
def modN (a b : Nat) : Nat := a % b

theorem sh_r {a b : Nat} (hb : b ≤ 64) : shrA (a : Int) (min b IntKind.i64.bits) = ((shrN a b : Nat) : Int) := by
  rw [Nat.min_eq_left (show b ≤ IntKind.i64.bits from hb)]; rfl
theorem sh_ru {a b : Nat} (hb : b ≤ 64) : shrA (a : Int) (min b IntKind.u64.bits) = ((shrN a b : Nat) : Int) := by
  rw [Nat.min_eq_left (show b ≤ IntKind.u64.bits from hb)]; rfl
theorem sh_l {a b : Nat} (hb : b ≤ 64) (h : a * 2 ^ b ≤ 9223372036854775807) : wrapA .i64 (shlA (a : Int) (min b IntKind.i64.bits)) = ((shlN a b : Nat) : Int) := by
  rw [Nat.min_eq_left (show b ≤ IntKind.i64.bits from hb)]
  exact w_wrap .i64 h
theorem sh_1 {b : Nat} (hb : b < 63) : wrapA .i64 (shlA 1 (min b IntKind.i64.bits)) = ((pw b : Nat) : Int) := by
  have h2 : 2 ^ b ≤ 2 ^ 62 := Nat.pow_le_pow_right (by decide) (by omega)
  have h := sh_l (a := 1) (b := b) (by omega) (by omega)
  rw [show ((1 : Nat) : Int) = 1 from rfl] at h
  rw [h]; show ((1 * 2 ^ b : Nat) : Int) = _; rw [Nat.one_mul]; rfl
theorem n_and {a b : Nat} (ha : a ≤ 9223372036854775807) (hb : b ≤ 9223372036854775807) : bitsA .and .i64 (a : Int) (b : Int) = some (.int .i64 ((andN a b : Nat) : Int)) := w_and .i64 ha hb
theorem n_and1 {a : Nat} (ha : a ≤ 9223372036854775807) : bitsA .and .i64 (a : Int) 1 = some (.int .i64 ((modN a 2 : Nat) : Int)) := by
  have h := w_and .i64 (a := a) (b := 1) ha (by decide)
  rw [Nat.and_one_is_mod] at h
  exact h
theorem n_or {a b : Nat} (ha : a ≤ 9223372036854775807) (hb : b ≤ 9223372036854775807) : bitsA .or .i64 (a : Int) (b : Int) = some (.int .i64 ((orN a b : Nat) : Int)) := w_or .i64 ha hb
theorem n_xor {a b : Nat} (ha : a ≤ 9223372036854775807) (hb : b ≤ 9223372036854775807) : bitsA .xor .i64 (a : Int) (b : Int) = some (.int .i64 ((xorN a b : Nat) : Int)) := w_xor .i64 ha hb
theorem n_wrap {a : Nat} (ha : a ≤ 9223372036854775807) : wrapA .i64 (a : Int) = (a : Int) := w_wrap .i64 ha
theorem n_wrapu {a : Nat} (ha : a ≤ 18446744073709551615) : wrapA .u64 (a : Int) = (a : Int) := w_wrap .u64 ha

def nints (l : List Nat) : List Int := l.map fun (n : Nat) => (n : Int)
theorem nints_length (l : List Nat) : (nints l).length = l.length := by simp [nints]
theorem nints_get {l : List Nat} {i x : Nat} (h : l[i]? = some x) : (nints l)[i]? = some (x : Int) := by simp [nints, h]
theorem nints_append (a b : List Nat) : nints (a ++ b) = nints a ++ nints b := by simp [nints]
theorem nints_one (x : Nat) : nints [x] = [(x : Int)] := rfl
theorem nints_nil : nints [] = [] := rfl
theorem nints_set (l : List Nat) (i x : Nat) : (nints l).set i (x : Int) = nints (l.set i x) := by simp [nints, List.map_set]
theorem nints_inj {a b : List Nat} (h : nints a = nints b) : a = b := by
  induction a generalizing b with
  | nil => cases b with
    | nil => rfl
    | cons y z => simp [nints] at h
  | cons x r ih =>
    cases b with
    | nil => simp [nints] at h
    | cons y z =>
      simp only [nints, List.map_cons, List.cons.injEq] at h
      rw [ih (b := z) (by simpa [nints] using h.2)]
      congr 1; omega
/-- Numbers that are not negative. -/
theorem of_nonneg : ∀ {l : List Int}, (∀ x ∈ l, 0 ≤ x) → ∃ m : List Nat, l = nints m
  | [], _ => ⟨[], rfl⟩
  | x :: r, h => by
    obtain ⟨m, rfl⟩ := of_nonneg (l := r) fun y hy => h y (by simp [hy])
    have := h x (by simp)
    exact ⟨x.toNat :: m, by simp [nints]; omega⟩

end Go.Abs
