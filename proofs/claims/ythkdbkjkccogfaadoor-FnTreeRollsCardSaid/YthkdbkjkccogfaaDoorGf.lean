/- What came in: structs of numbers and lists. Nothing is claimed here; no condition. -/
import Derived.Test.YthkdbkjkccogfaaDoorHd
import Derived.Test.YthkdbkjkccogfaaDoorAbsT
namespace Go.Proofs.YthkdbkjkccogfaaDoor
open Go Go.Abs
set_option linter.unusedSimpArgs false
set_option linter.unusedVariables false
theorem max_len {n : Nat} (h : n ≤ maxLen) : n ≤ 9223372036854775807 := by simpa [maxLen] using h
theorem fits_reg {xs : List AV} (h : Fits [.int .i64, .int .i64] xs) : ∃ (w t : Int), xs = [.int .i64 w, .int .i64 t] := by
  simp only [Fits, Fit] at h
  obtain ⟨_, _, rfl, ⟨a, rfl, _⟩, _, _, rfl, ⟨b, rfl, _⟩, rfl⟩ := h
  exact ⟨a, b, rfl⟩
/-- A temper's cells. -/
def tem (a b c d e f : Int) : List AV := [.int .i64 a, .int .i64 b, .int .i64 c, .int .i64 d, .int .i64 e, .int .i64 f]
theorem fits_tmp {xs : List AV} (h : Fits [.int .i64, .int .i64, .int .i64, .int .i64, .int .i64, .int .i64] xs) : ∃ (a b c d e f : Int), xs = tem a b c d e f := by
  simp only [Fits, Fit] at h
  obtain ⟨_, _, rfl, ⟨a, rfl, _⟩, _, _, rfl, ⟨b, rfl, _⟩, _, _, rfl, ⟨c, rfl, _⟩, _, _, rfl, ⟨d, rfl, _⟩, _, _, rfl, ⟨e, rfl, _⟩, _, _, rfl, ⟨f, rfl, _⟩, rfl⟩ := h
  exact ⟨a, b, c, d, e, f, rfl⟩
/-- The cells of a list of pairs. -/
def pairs : List (Int × Int) → List AV
  | [] => []
  | (a, b) :: r => .int .i64 a :: .int .i64 b :: pairs r
theorem fits_seens {a : AV} (h : Fit (.sl [.int .i64, .int .i64]) a) : ∃ l : List (Int × Int), a = .lst l.length (pairs l) ∧ l.length ≤ maxLen ∧ ∀ x ∈ l, (-9223372036854775808 ≤ x.1 ∧ x.1 ≤ 9223372036854775807) ∧ (-9223372036854775808 ≤ x.2 ∧ x.2 ≤ 9223372036854775807) := by
  simp only [Fit] at h
  obtain ⟨rows, rfl, hm, h⟩ := h
  have : ∀ rows : List (List AV), (∀ r ∈ rows, Fits [.int .i64, .int .i64] r) → ∃ l : List (Int × Int), l.length = rows.length ∧ rows.flatten = pairs l ∧ ∀ x ∈ l, (-9223372036854775808 ≤ x.1 ∧ x.1 ≤ 9223372036854775807) ∧ (-9223372036854775808 ≤ x.2 ∧ x.2 ≤ 9223372036854775807) := by
    intro rows
    induction rows with
    | nil => intro _; exact ⟨[], rfl, rfl, by simp⟩
    | cons r t ih =>
      intro h
      obtain ⟨l, h1, h2, h3⟩ := ih fun y hy => h y (by simp [hy])
      have h4 := h r (by simp)
      simp only [Fits, Fit] at h4
      obtain ⟨_, _, rfl, ⟨a, rfl, ha⟩, _, _, rfl, ⟨b, rfl, hb⟩, rfl⟩ := h4
      refine ⟨(a, b) :: l, by simp [h1], by simp [h2, pairs], fun x hx => ?_⟩
      rcases List.mem_cons.1 hx with rfl | hx
      · simp [Lit.wf, IntKind.min, IntKind.max, IntKind.signed, IntKind.bits] at ha hb
        simp only
        omega
      · exact h3 x hx
  obtain ⟨l, h1, h2, h3⟩ := this rows h
  exact ⟨l, by rw [h1, h2], by omega, h3⟩
end Go.Proofs.YthkdbkjkccogfaaDoor
