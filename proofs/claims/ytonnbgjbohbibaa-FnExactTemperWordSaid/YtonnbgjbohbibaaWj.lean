/- Words in the abstract interpreter: operations on bits of numbers that are not negative. -/
import Derived.Test.YtonnbgjbohbibaaAbsZ
namespace Go.Abs
open Go

theorem small_nat (k : IntKind) {a b : Nat} (ha : a ≤ topOf k) (hb : b ≤ topOf k) : smallNat k (a : Int) (b : Int) = some (a, b) := by
  show (bif Nat.ble a (topOf k) && Nat.ble b (topOf k) then some (a, b) else none) = _
  have h1 : Nat.ble a (topOf k) = true := by rw [Nat.ble_eq]; exact ha
  have h2 : Nat.ble b (topOf k) = true := by rw [Nat.ble_eq]; exact hb
  rw [h1, h2]; rfl

theorem w_and (k : IntKind) {a b : Nat} (ha : a ≤ topOf k) (hb : b ≤ topOf k) : bitsA .and k (a : Int) (b : Int) = some (.int k ((a &&& b : Nat) : Int)) := by
  simp only [bitsA, small_nat k ha hb]; rfl
theorem w_or (k : IntKind) {a b : Nat} (ha : a ≤ topOf k) (hb : b ≤ topOf k) : bitsA .or k (a : Int) (b : Int) = some (.int k ((a ||| b : Nat) : Int)) := by
  simp only [bitsA, small_nat k ha hb]; rfl
theorem w_xor (k : IntKind) {a b : Nat} (ha : a ≤ topOf k) (hb : b ≤ topOf k) : bitsA .xor k (a : Int) (b : Int) = some (.int k ((a ^^^ b : Nat) : Int)) := by
  simp only [bitsA, small_nat k ha hb]; rfl
theorem w_shr (a n : Nat) : shrA (a : Int) n = ((a / 2 ^ n : Nat) : Int) := rfl
theorem w_shl (a n : Nat) : shlA (a : Int) n = ((a * 2 ^ n : Nat) : Int) := rfl
theorem w_wrap (k : IntKind) {n : Nat} (h : n ≤ topOf k) : wrapA k (n : Int) = n := by
  rw [wrapA_eq]; exact wrap_small k h

end Go.Abs
