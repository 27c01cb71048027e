/- Words in the abstract interpreter: operations with names that the simplifier leaves alone. -/
import Derived.Test.YtonnbgjbohbibaaWj
import Derived.Test.YtonnbgjbohbibaaWa
namespace Go.Abs
open Go

def pw (b : Nat) : Nat := 2 ^ b
def shrN (a n : Nat) : Nat := a / 2 ^ n
def shlN (a n : Nat) : Nat := a * 2 ^ n
def andN (a b : Nat) : Nat := a &&& b
def orN (a b : Nat) : Nat := a ||| b
def xorN (a b : Nat) : Nat := a ^^^ b
def addN (a b : Nat) : Nat := a + b
def subN (a b : Nat) : Nat := a - b
def mulN (a b : Nat) : Nat := a * b
def divN (a b : Nat) : Nat := a / b
def modN (a b : Nat) : Nat := a % b

theorem sh_r {a b : Nat} (hb : b ≤ 64) : shrA (a : Int) (min b IntKind.i64.bits) = ((shrN a b : Nat) : Int) := by
  rw [Nat.min_eq_left (show b ≤ IntKind.i64.bits from hb)]; rfl
theorem sh_ru {a b : Nat} (hb : b ≤ 64) : shrA (a : Int) (min b IntKind.u64.bits) = ((shrN a b : Nat) : Int) := by
  rw [Nat.min_eq_left (show b ≤ IntKind.u64.bits from hb)]; rfl
theorem sh_l {a b : Nat} (hb : b ≤ 64) (h : a * 2 ^ b ≤ 9223372036854775807) : wrapA .i64 (shlA (a : Int) (min b IntKind.i64.bits)) = ((shlN a b : Nat) : Int) := by
  rw [Nat.min_eq_left (show b ≤ IntKind.i64.bits from hb)]
  exact w_wrap .i64 h
theorem sh_1 {b : Nat} (hb : b < 63) : wrapA .i64 (shlA 1 (min b IntKind.i64.bits)) = ((pw b : Nat) : Int) := by
  have h2 : 2 ^ b ≤ 2 ^ 62 := Nat.pow_le_pow_right (by decide) (by omega)
  have h := sh_l (a := 1) (b := b) (by omega) (by omega)
  rw [show ((1 : Nat) : Int) = 1 from rfl] at h
  rw [h]; show ((1 * 2 ^ b : Nat) : Int) = _; rw [Nat.one_mul]; rfl
theorem n_and {a b : Nat} (ha : a ≤ 9223372036854775807) (hb : b ≤ 9223372036854775807) : bitsA .and .i64 (a : Int) (b : Int) = some (.int .i64 ((andN a b : Nat) : Int)) := w_and .i64 ha hb
theorem n_and1 {a : Nat} (ha : a ≤ 9223372036854775807) : bitsA .and .i64 (a : Int) 1 = some (.int .i64 ((modN a 2 : Nat) : Int)) := by
  have h := w_and .i64 (a := a) (b := 1) ha (by decide)
  rw [Nat.and_one_is_mod] at h
  exact h
theorem n_or {a b : Nat} (ha : a ≤ 9223372036854775807) (hb : b ≤ 9223372036854775807) : bitsA .or .i64 (a : Int) (b : Int) = some (.int .i64 ((orN a b : Nat) : Int)) := w_or .i64 ha hb
theorem n_xor {a b : Nat} (ha : a ≤ 9223372036854775807) (hb : b ≤ 9223372036854775807) : bitsA .xor .i64 (a : Int) (b : Int) = some (.int .i64 ((xorN a b : Nat) : Int)) := w_xor .i64 ha hb
theorem n_wrap {a : Nat} (ha : a ≤ 9223372036854775807) : wrapA .i64 (a : Int) = (a : Int) := w_wrap .i64 ha
theorem n_wrapu {a : Nat} (ha : a ≤ 18446744073709551615) : wrapA .u64 (a : Int) = (a : Int) := w_wrap .u64 ha

def nints (l : List Nat) : List Int := l.map fun (n : Nat) => (n : Int)
theorem nints_length (l : List Nat) : (nints l).length = l.length := by simp [nints]
theorem nints_get {l : List Nat} {i x : Nat} (h : l[i]? = some x) : (nints l)[i]? = some (x : Int) := by simp [nints, h]
theorem nints_append (a b : List Nat) : nints (a ++ b) = nints a ++ nints b := by simp [nints]
theorem nints_one (x : Nat) : nints [x] = [(x : Int)] := rfl
theorem nints_nil : nints [] = [] := rfl
theorem nints_set (l : List Nat) (i x : Nat) : (nints l).set i (x : Int) = nints (l.set i x) := by simp [nints, List.map_set]
theorem nints_inj {a b : List Nat} (h : nints a = nints b) : a = b := by
  induction a generalizing b with
  | nil => cases b with
    | nil => rfl
    | cons y z => simp [nints] at h
  | cons x r ih =>
    cases b with
    | nil => simp [nints] at h
    | cons y z =>
      simp only [nints, List.map_cons, List.cons.injEq] at h
      rw [ih (b := z) (by simpa [nints] using h.2)]
      congr 1; omega
/-- Numbers that are not negative. -/
theorem of_nonneg : ∀ {l : List Int}, (∀ x ∈ l, 0 ≤ x) → ∃ m : List Nat, l = nints m
  | [], _ => ⟨[], rfl⟩
  | x :: r, h => by
    obtain ⟨m, rfl⟩ := of_nonneg (l := r) fun y hy => h y (by simp [hy])
    have := h x (by simp)
    exact ⟨x.toNat :: m, by simp [nints]; omega⟩

end Go.Abs
