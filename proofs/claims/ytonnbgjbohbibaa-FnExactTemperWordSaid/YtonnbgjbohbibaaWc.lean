/- Linear equations modulo 2: masks of unknowns with the bit at the width for the right side. -/
import Derived.Test.YtonnbgjbohbibaaWa
namespace Go.Wd

theorem par_two_pow {c : Nat} (h : c < 64) : par (2 ^ c) = 1 := by
  have h0 : ∀ c k, c < k → parF k (2 ^ c) = 1 := by
    intro c
    induction c with
    | zero => intro k hk; obtain ⟨k', rfl⟩ : ∃ k', k = k' + 1 := ⟨k - 1, by omega⟩; simp [parF, parF_zero]
    | succ c ih =>
      intro k hk; obtain ⟨k', rfl⟩ : ∃ k', k = k' + 1 := ⟨k - 1, by omega⟩
      simp only [parF]
      rw [show 2 ^ (c + 1) / 2 = 2 ^ c from by rw [Nat.pow_succ]; omega, show 2 ^ (c + 1) % 2 = 0 from by rw [Nat.pow_succ]; omega, ih k' (by omega)]
      rfl
  exact h0 c 64 h

theorem and_two_pow (e c : Nat) : e &&& 2 ^ c = if e.testBit c then 2 ^ c else 0 := by
  apply Nat.eq_of_testBit_eq
  intro i
  rw [Nat.testBit_and, Nat.testBit_two_pow]
  by_cases h : c = i
  · subst h; cases e.testBit c <;> simp
  · cases e.testBit c <;> simp [h]

theorem par_flip {c : Nat} (h : c < 64) (e X : Nat) : par (e &&& (X ^^^ 2 ^ c)) = par (e &&& X) ^^^ (if e.testBit c then 1 else 0) := by
  rw [Nat.and_xor_distrib_left, par_xor, and_two_pow]
  cases e.testBit c
  · simp [par_zero]
  · simp [par_two_pow h]

theorem testBit_flip (X c i : Nat) : (X ^^^ 2 ^ c).testBit i = (X.testBit i ^^ decide (c = i)) := by
  rw [Nat.testBit_xor, Nat.testBit_two_pow]

/-- A number with the bit at the width fulfils equations. -/
def Sol (w : Nat) (es : List Nat) (X : Nat) : Prop := X < 2 ^ (w + 1) ∧ X.testBit w = true ∧ ∀ e ∈ es, par (e &&& X) = 0

theorem flip_lt {w c X : Nat} (hc : c < w) (h : X < 2 ^ (w + 1)) : X ^^^ 2 ^ c < 2 ^ (w + 1) :=
  Nat.xor_lt_two_pow h (Nat.pow_lt_pow_right (by decide) (by omega))

/-- One column is cleared: the first equation with it goes, and is added to the others with it. -/
def elim (c : Nat) (es : List Nat) : List Nat :=
  match es.findIdx? (fun e => e.testBit c) with
  | none => es
  | some i => (es.eraseIdx i).map fun e => if e.testBit c then e ^^^ es.getD i 0 else e

def solves : Nat → Nat → List Nat → Bool
  | 0, _, es => es.all (· == 0)
  | k + 1, c, es => solves k (c + 1) (elim c es)

theorem mem_eraseIdx_or {α : Type} {l : List α} {i : Nat} {x : α} (h : x ∈ l) (hi : i < l.length) : x ∈ l.eraseIdx i ∨ l[i] = x := by
  induction l generalizing i with
  | nil => simp at h
  | cons a l ih =>
    cases i with
    | zero =>
      rcases List.mem_cons.1 h with h | h
      · right; simp [h]
      · left; simpa using h
    | succ i =>
      rcases List.mem_cons.1 h with h | h
      · left; simp [h]
      · have := ih h (by simpa using hi)
        rcases this with h' | h'
        · left; simp [h']
        · right; simpa using h'

theorem elim_spec {w c : Nat} (hc : c < w) (hw : w < 64) {es : List Nat} (hb : ∀ e ∈ es, e < 2 ^ (w + 1) ∧ ∀ i, i < c → e.testBit i = false) :
    (∀ e ∈ elim c es, e < 2 ^ (w + 1) ∧ ∀ i, i < c + 1 → e.testBit i = false) ∧ ((∃ X, Sol w es X) ↔ ∃ X, Sol w (elim c es) X) := by
  unfold elim
  cases hf : es.findIdx? (fun e => e.testBit c) with
  | none =>
    rw [List.findIdx?_eq_none_iff] at hf
    refine ⟨?_, Iff.rfl⟩
    intro e he
    refine ⟨(hb e he).1, ?_⟩
    intro i hi
    by_cases h : i = c
    · subst h; simpa using hf e he
    · exact (hb e he).2 i (by omega)
  | some k =>
    rw [List.findIdx?_eq_some_iff_getElem] at hf
    obtain ⟨hk, hp, _⟩ := hf
    have hpm : es[k] ∈ es := List.getElem_mem hk
    have hg : es.getD k 0 = es[k] := by simp [List.getD, hk]
    simp only [hg]
    have hE : ∀ e ∈ (es.eraseIdx k).map (fun e => if e.testBit c then e ^^^ es[k] else e), ∃ e' ∈ es, e = if e'.testBit c then e' ^^^ es[k] else e' := by
      intro e he
      obtain ⟨e', h1, h2⟩ := List.mem_map.1 he
      exact ⟨e', List.mem_of_mem_eraseIdx h1, h2.symm⟩
    have hlow : ∀ e ∈ (es.eraseIdx k).map (fun e => if e.testBit c then e ^^^ es[k] else e), e < 2 ^ (w + 1) ∧ ∀ i, i < c + 1 → e.testBit i = false := by
      intro e he
      obtain ⟨e', h1, h2⟩ := hE e he
      obtain ⟨a1, a2⟩ := hb e' h1
      obtain ⟨b1, b2⟩ := hb _ hpm
      cases ht : e'.testBit c with
      | false =>
        rw [ht] at h2; simp at h2; subst h2
        refine ⟨a1, ?_⟩
        intro i hi
        by_cases h : i = c
        · subst h; exact ht
        · exact a2 i (by omega)
      | true =>
        rw [ht] at h2; simp at h2; subst h2
        refine ⟨Nat.xor_lt_two_pow a1 b1, ?_⟩
        intro i hi
        rw [Nat.testBit_xor]
        by_cases h : i = c
        · subst h; simp [ht, hp]
        · rw [a2 i (by omega), b2 i (by omega)]; rfl
    refine ⟨hlow, ?_, ?_⟩
    · rintro ⟨X, x1, x2, x3⟩
      refine ⟨X, x1, x2, ?_⟩
      intro e he
      obtain ⟨e', h1, h2⟩ := hE e he
      cases ht : e'.testBit c with
      | false => rw [ht] at h2; simp at h2; subst h2; exact x3 _ h1
      | true =>
        rw [ht] at h2; simp at h2; subst h2
        rw [Nat.and_xor_distrib_right, par_xor, x3 _ h1, x3 _ hpm]; rfl
    · rintro ⟨X, x1, x2, x3⟩
      -- the equation that went is fulfilled by the choice of its unknown
      have key : ∃ Y, Y < 2 ^ (w + 1) ∧ Y.testBit w = true ∧ par (es[k] &&& Y) = 0 ∧ ∀ e ∈ (es.eraseIdx k).map (fun e => if e.testBit c then e ^^^ es[k] else e), par (e &&& Y) = 0 := by
        have hp2 := par_lt (es[k] &&& X)
        by_cases h0 : par (es[k] &&& X) = 0
        · exact ⟨X, x1, x2, h0, x3⟩
        · refine ⟨X ^^^ 2 ^ c, flip_lt hc x1, ?_, ?_, ?_⟩
          · rw [testBit_flip, x2]; simp; omega
          · rw [par_flip (by omega)]
            have : par (es[k] &&& X) = 1 := by omega
            rw [this, hp]; rfl
          · intro e he
            rw [par_flip (by omega), x3 e he, (hlow e he).2 c (by omega)]; rfl
      obtain ⟨Y, y1, y2, y3, y4⟩ := key
      refine ⟨Y, y1, y2, ?_⟩
      intro e he
      rcases mem_eraseIdx_or he hk with h | h
      · have := y4 _ (List.mem_map.2 ⟨e, h, rfl⟩)
        cases ht : e.testBit c with
        | false => rw [ht] at this; simpa using this
        | true =>
          rw [ht] at this; simp only [if_true] at this
          rw [Nat.and_xor_distrib_right, par_xor, y3] at this; simpa using this
      · rw [← h]; exact y3

theorem solves_iff {w : Nat} (hw : w < 64) : ∀ (k c : Nat), c + k = w → ∀ (es : List Nat), (∀ e ∈ es, e < 2 ^ (w + 1) ∧ ∀ i, i < c → e.testBit i = false) → (solves k c es = true ↔ ∃ X, Sol w es X) := by
  intro k
  induction k with
  | zero =>
    intro c hck es hb
    simp only [solves, List.all_eq_true, beq_iff_eq]
    have hc : c = w := by omega
    subst hc
    constructor
    · intro h
      refine ⟨2 ^ c, Nat.pow_lt_pow_right (by decide) (by omega), Nat.testBit_two_pow_self, ?_⟩
      intro e he
      rw [h e he]; simp [par_zero]
    · rintro ⟨X, x1, x2, x3⟩ e he
      have h3 := x3 e he
      obtain ⟨b1, b2⟩ := hb e he
      have hee : e = if e.testBit c then 2 ^ c else 0 := by
        apply Nat.eq_of_testBit_eq
        intro i
        by_cases h1 : i < c
        · rw [b2 i h1]; cases e.testBit c <;> simp [Nat.testBit_two_pow]; omega
        · by_cases h2 : i = c
          · subst h2; cases h : e.testBit i <;> simp
          · have : e.testBit i = false := Nat.testBit_lt_two_pow (Nat.lt_of_lt_of_le b1 (Nat.pow_le_pow_right (by decide) (by omega)))
            rw [this]; cases e.testBit c <;> simp [Nat.testBit_two_pow]; omega
      cases ht : e.testBit c with
      | false => rw [ht] at hee; simpa using hee
      | true =>
        exfalso
        rw [ht] at hee; simp only [if_true] at hee
        rw [hee, Nat.and_comm, and_two_pow, x2] at h3
        simp only [if_true] at h3
        rw [par_two_pow hw] at h3; omega
  | succ k ih =>
    intro c hck es hb
    obtain ⟨h1, h2⟩ := elim_spec (w := w) (c := c) (by omega) hw hb
    simp only [solves]
    rw [h2]
    exact ih (c + 1) (by omega) _ h1

end Go.Wd
