/- Words: the machine's count of the bits that are 1 has the parity of the bits, for words of 16 bits. -/
import Derived.Test.YtonnbgjbohbibaaWa
namespace Go.Wd

def ba (x : Nat) : Nat := (x / 2 &&& 85) + (x &&& 85)
def bb (x : Nat) : Nat := (ba x / 4 &&& 51) + (ba x &&& 51)
def bc (x : Nat) : Nat := (bb x / 16 + bb x) &&& 15
def byteOk (x : Nat) : Bool := decide (ba x < 256) && decide (bb x ≤ 68) && decide (bb x % 16 ≤ 4) && decide (bc x ≤ 8) && (bc x % 2 == parF 8 x)
theorem byte_all : ∀ x, x < 256 → byteOk x = true := by decide +kernel
theorem byte_spec {x : Nat} (h : x < 256) : ba x < 256 ∧ bb x ≤ 68 ∧ bb x % 16 ≤ 4 ∧ bc x ≤ 8 ∧ bc x % 2 = parF 8 x := by
  have := byte_all x h
  simp only [byteOk, Bool.and_eq_true, decide_eq_true_eq, beq_iff_eq] at this
  exact ⟨this.1.1.1.1, this.1.1.1.2, this.1.1.2, this.1.2, this.2⟩

theorem and_byte {x m : Nat} (h : x < 256) : x &&& m = x &&& (m % 256) := by
  have h1 : x &&& m < 256 := Nat.lt_of_le_of_lt Nat.and_le_left h
  have h2 := Nat.and_mod_two_pow (a := x) (b := m) (n := 8)
  rw [show (2 : Nat) ^ 8 = 256 from rfl, Nat.mod_eq_of_lt h1, Nat.mod_eq_of_lt h] at h2
  exact h2
theorem and_low {x m : Nat} (k : Nat) (h : m < 2 ^ k) : x &&& m = (x % 2 ^ k) &&& m := by
  have h1 : x &&& m < 2 ^ k := Nat.lt_of_le_of_lt Nat.and_le_right h
  have h2 := Nat.and_mod_two_pow (a := x) (b := m) (n := k)
  rw [Nat.mod_eq_of_lt h1, Nat.mod_eq_of_lt h] at h2
  exact h2
theorem and_split (x m : Nat) : x &&& m = (x % 256 &&& m % 256) + 256 * (x / 256 &&& m / 256) := by
  have h1 := Nat.and_mod_two_pow (a := x) (b := m) (n := 8)
  have h2 := Nat.and_div_two_pow (a := x) (b := m) (n := 8)
  rw [show (2 : Nat) ^ 8 = 256 from rfl] at h1 h2
  have := Nat.mod_add_div (x &&& m) 256
  omega

theorem pc_bytes {lo hi : Nat} (h1 : lo < 256) (h2 : hi < 256) : pc (lo + 256 * hi) = bc lo + bc hi := by
  obtain ⟨a1, b1, n1, c1, _⟩ := byte_spec h1
  obtain ⟨a2, b2, n2, c2, _⟩ := byte_spec h2
  have ea : ((lo + 256 * hi) / 2 &&& 6148914691236517205) + ((lo + 256 * hi) &&& 6148914691236517205) = ba lo + 256 * ba hi := by
    rw [and_split ((lo + 256 * hi) / 2), and_split (lo + 256 * hi)]
    rw [show (lo + 256 * hi) % 256 = lo by omega, show (lo + 256 * hi) / 256 = hi by omega, show (lo + 256 * hi) / 2 / 256 = hi / 2 by omega]
    rw [show 6148914691236517205 % 256 = 85 from rfl, show 6148914691236517205 / 256 = 24019198012642645 from rfl]
    rw [and_low (x := (lo + 256 * hi) / 2 % 256) 7 (by decide : 85 < 2 ^ 7), show (lo + 256 * hi) / 2 % 256 % 2 ^ 7 = lo / 2 by omega]
    rw [and_byte (x := hi / 2) (by omega), and_byte (x := hi) (by omega), show 24019198012642645 % 256 = 85 from rfl]
    simp only [ba]; omega
  have eb : ((ba lo + 256 * ba hi) / 4 &&& 3689348814741910323) + ((ba lo + 256 * ba hi) &&& 3689348814741910323) = bb lo + 256 * bb hi := by
    rw [and_split ((ba lo + 256 * ba hi) / 4), and_split (ba lo + 256 * ba hi)]
    rw [show (ba lo + 256 * ba hi) % 256 = ba lo by omega, show (ba lo + 256 * ba hi) / 256 = ba hi by omega, show (ba lo + 256 * ba hi) / 4 / 256 = ba hi / 4 by omega]
    rw [show 3689348814741910323 % 256 = 51 from rfl, show 3689348814741910323 / 256 = 14411518807585587 from rfl]
    rw [and_low (x := (ba lo + 256 * ba hi) / 4 % 256) 6 (by decide : 51 < 2 ^ 6), show (ba lo + 256 * ba hi) / 4 % 256 % 2 ^ 6 = ba lo / 4 by omega]
    rw [and_byte (x := ba hi / 4) (by omega), and_byte (x := ba hi) (by omega), show 14411518807585587 % 256 = 51 from rfl]
    simp only [bb]; omega
  have ec : (((bb lo + 256 * bb hi) / 16 + (bb lo + 256 * bb hi)) &&& 1085102592571150095) = bc lo + 256 * bc hi := by
    rw [and_split]
    rw [show ((bb lo + 256 * bb hi) / 16 + (bb lo + 256 * bb hi)) / 256 = bb hi / 16 + bb hi by omega]
    rw [show 1085102592571150095 % 256 = 15 from rfl, show 1085102592571150095 / 256 = 4238682002231055 from rfl]
    rw [and_low (x := ((bb lo + 256 * bb hi) / 16 + (bb lo + 256 * bb hi)) % 256) 4 (by decide : 15 < 2 ^ 4), and_byte (x := bb hi / 16 + bb hi) (by omega), show 4238682002231055 % 256 = 15 from rfl]
    rw [show ((bb lo + 256 * bb hi) / 16 + (bb lo + 256 * bb hi)) % 256 % 2 ^ 4 = (bb lo / 16 + bb lo) % 2 ^ 4 by omega, ← and_low (x := bb lo / 16 + bb lo) 4 (by decide : 15 < 2 ^ 4)]
    rfl
  simp only [pc]
  rw [ea, eb, ec]
  rw [show (bc lo + 256 * bc hi) / 256 = bc hi by omega, show (bc lo + 256 * bc hi + bc hi) / 65536 = 0 by omega, Nat.add_zero, show (bc lo + 256 * bc hi + bc hi) / 4294967296 = 0 by omega, Nat.add_zero]
  rw [show (127 : Nat) = 2 ^ 7 - 1 from rfl, Nat.and_two_pow_sub_one_eq_mod]
  omega

theorem pc_par {n : Nat} (h : n < 65536) : pc n &&& 1 = par n := by
  obtain ⟨lo, hi, h1, h2, rfl⟩ : ∃ lo hi, lo < 256 ∧ hi < 256 ∧ n = lo + 256 * hi := ⟨n % 256, n / 256, by omega, by omega, by omega⟩
  rw [pc_bytes h1 h2, Nat.and_one_is_mod, par_eq (k := 16) (by omega) (by omega), show (16 : Nat) = 8 + 8 from rfl, show (256 : Nat) = 2 ^ 8 from rfl, parF_add_mul 8 8 (by omega)]
  have p1 := (byte_spec h1).2.2.2.2
  have p2 := (byte_spec h2).2.2.2.2
  have q1 := parF_lt 8 lo
  have q2 := parF_lt 8 hi
  rw [← p1] at q1 ⊢
  rw [← p2] at q2 ⊢
  rw [Nat.add_mod]
  generalize bc lo % 2 = x at *
  generalize bc hi % 2 = y at *
  have hx : x = 0 ∨ x = 1 := by omega
  have hy : y = 0 ∨ y = 1 := by omega
  rcases hx with rfl | rfl <;> rcases hy with rfl | rfl <;> rfl

end Go.Wd
