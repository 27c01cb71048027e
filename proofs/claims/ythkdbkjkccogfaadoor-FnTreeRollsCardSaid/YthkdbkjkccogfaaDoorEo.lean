/- A bound. Nothing is claimed here; no condition. -/
import Derived.Test.YthkdbkjkccogfaaDoorGd
import Derived.Test.YthkdbkjkccogfaaDoorWx
namespace Go.Proofs.YthkdbkjkccogfaaDoor
open Go Go.Abs Go.Wd
theorem lt_62 {r : Nat} (h : r < 2 ^ 62) : r ≤ 9223372036854775807 := by
  have : (2 : Nat) ^ 62 ≤ 9223372036854775807 := by decide
  omega
theorem xorN_lt {a b : Nat} (ha : a < 2 ^ 62) (hb : b < 2 ^ 62) : xorN a b < 2 ^ 62 := Nat.xor_lt_two_pow ha hb
theorem pw_32 {k : Nat} (h : k ≤ 32) : pw k ≤ 4294967296 := Nat.pow_le_pow_right (by decide) h
theorem pw_dec32 {k : Nat} (h : k ≤ 32) : wrapA .i64 (((pw k : Nat) : Int) - 1) = ((pw k : Nat) : Int) - 1 := by
  have := pw_32 h
  exact wrapA_id (by omega) (by omega)
theorem nints_append_row {T : Tab} {σ : St} {b n : Nat} {l : List Nat} {x : Nat} {st e : TypeId} (ht : T.ty st = some ⟨.slice e, 1, 24, [.nilS]⟩) (he : T.ty e = some ⟨.int .i64, 1, 8, [.int .i64 0]⟩)
    (hb : Row σ b (nints l)) (hn : n = l.length) (hs : n < 1000000000000) :
    ∃ σ', appendA T (σ.push ⟨[.int .i64 (x : Int)], 1, false⟩) st st (.sl b 0 n n) (.sl σ.n 0 1 1) = some (.sl (σ.n + 1) 0 (n + 1) (n + 1), σ') ∧ Row σ' (σ.n + 1) (nints (l ++ [x])) ∧ σ'.n = σ.n + 2 ∧ ∀ c, c ≠ b → c < σ.n → σ'.get c = σ.get c := by
  rw [nints_append, nints_one]
  exact append_row ht he hb (by rw [nints_length]; exact hn) hs

end Go.Proofs.YthkdbkjkccogfaaDoor
