/- Words: the seeds that show what is seen lie in one block of 256. -/
namespace Go.Wd

theorem filter_block {p : Nat → Bool} {s n : Nat} (hn : 256 * s + 256 ≤ n) (hp : ∀ x, p x = true → x / 256 = s) :
    (List.range n).filter p = ((List.range 256).map fun i => 256 * s + i).filter p := by
  obtain ⟨r, rfl⟩ : ∃ r, n = 256 * s + 256 + r := ⟨n - (256 * s + 256), by omega⟩
  rw [List.range_add, List.range_add, List.filter_append, List.filter_append]
  have h1 : (List.range (256 * s)).filter p = [] := by
    rw [List.filter_eq_nil_iff]
    intro x hx h
    have := hp x h
    have := List.mem_range.1 hx
    omega
  have h2 : ((List.range r).map fun i => 256 * s + 256 + i).filter p = [] := by
    rw [List.filter_eq_nil_iff]
    intro x hx h
    obtain ⟨i, _, rfl⟩ := List.mem_map.1 hx
    have := hp _ h
    omega
  rw [h1, h2]; simp

theorem and_word (n : Nat) : n &&& 65535 = n % 65536 := Nat.and_two_pow_sub_one_eq_mod n 16

end Go.Wd
