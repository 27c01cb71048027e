/- Words: linear recurrences modulo 2: sums, recurrences on the first bits, how least widths grow, spans of sequences. -/
import Derived.Test.YthkdbkjkccogfaaDoorXp
namespace Go.Wd
set_option linter.unusedVariables false
set_option linter.unusedSimpArgs false

/-- The sum modulo 2 of the first values. -/
def xs : Nat → (Nat → Bool) → Bool
  | 0, _ => false
  | n + 1, f => xs n f ^^ f n
theorem xs_congr {f g : Nat → Bool} : ∀ n, (∀ i, i < n → f i = g i) → xs n f = xs n g
  | 0, _ => rfl
  | n + 1, h => by rw [xs, xs, xs_congr n (fun i hi => h i (by omega)), h n (by omega)]
theorem xs_xor (f g : Nat → Bool) : ∀ n, xs n (fun i => f i ^^ g i) = (xs n f ^^ xs n g)
  | 0 => rfl
  | n + 1 => by
    rw [xs, xs, xs, xs_xor f g n]
    cases xs n f <;> cases xs n g <;> cases f n <;> cases g n <;> rfl
theorem xs_and (b : Bool) (f : Nat → Bool) : ∀ n, xs n (fun i => b && f i) = (b && xs n f)
  | 0 => by simp [xs]
  | n + 1 => by
    rw [xs, xs, xs_and b f n]
    cases b <;> rfl
theorem xs_false : ∀ n, xs n (fun _ => false) = false
  | 0 => rfl
  | n + 1 => by rw [xs, xs_false n]; rfl
theorem xs_zero {f : Nat → Bool} (n : Nat) (h : ∀ i, i < n → f i = false) : xs n f = false := (xs_congr n h).trans (xs_false n)
theorem xs_swap (f : Nat → Nat → Bool) (n : Nat) : ∀ m, xs m (fun j => xs n (fun i => f i j)) = xs n (fun i => xs m (fun j => f i j))
  | 0 => (xs_false n).symm
  | m + 1 => by
    rw [xs, xs_swap f n m, ← xs_xor]
    rfl
theorem xs_add (f : Nat → Bool) (m : Nat) : ∀ n, xs (m + n) f = (xs m f ^^ xs n (fun i => f (m + i)))
  | 0 => by simp [xs]
  | n + 1 => by
    rw [← Nat.add_assoc, xs, xs_add f m n, xs, Bool.xor_assoc]
theorem xs_first (f : Nat → Bool) (n : Nat) : xs (n + 1) f = (f 0 ^^ xs n (fun i => f (i + 1))) := by
  rw [Nat.add_comm, xs_add]
  simp [xs, Nat.add_comm]
theorem xs_one {f : Nat → Bool} {n k : Nat} (hk : k < n) : xs n (fun i => decide (i = k) && f i) = f k := by
  obtain ⟨r, rfl⟩ : ∃ r, n = k + (1 + r) := ⟨n - k - 1, by omega⟩
  have h1 : xs k (fun i => decide (i = k) && f i) = false := xs_zero k (fun i hi => by simp; omega)
  have h2 : xs r (fun i => decide (k + (1 + i) = k) && f (k + (1 + i))) = false := xs_zero r (fun i hi => by simp)
  rw [xs_add, xs_add, h1, h2]
  simp [xs]
/-- A sum over a part. -/
theorem xs_part {f : Nat → Bool} {n a k : Nat} (h : a + k ≤ n) : xs n (fun i => decide (a ≤ i) && (decide (i < a + k) && f i)) = xs k (fun i => f (a + i)) := by
  obtain ⟨r, rfl⟩ : ∃ r, n = a + (k + r) := ⟨n - (a + k), by omega⟩
  have h1 : xs a (fun i => decide (a ≤ i) && (decide (i < a + k) && f i)) = false := xs_zero a (fun i hi => by simp; omega)
  have h2 : xs r (fun i => decide (a ≤ a + (k + i)) && (decide (a + (k + i) < a + k) && f (a + (k + i)))) = false := xs_zero r (fun i hi => by simp; omega)
  rw [xs_add, xs_add, h1, h2]
  simp only [Bool.false_xor, Bool.xor_false]
  refine xs_congr k (fun i hi => ?_)
  have h3 : a ≤ a + i := by omega
  have h4 : a + i < a + k := by omega
  simp [h3, h4]
theorem xs_mul (f g : Nat → Bool) (b : Nat) (hb : 0 < b) : ∀ a, xs (a * b) (fun k => f (k / b) && g (k % b)) = (xs a f && xs b g)
  | 0 => by simp [xs]
  | a + 1 => by
    have h1 : xs b (fun i => f ((a * b + i) / b) && g ((a * b + i) % b)) = xs b (fun i => f a && g i) := xs_congr b (fun i hi => by
      rw [show (a * b + i) / b = a by rw [Nat.add_comm, Nat.add_mul_div_right _ _ hb, Nat.div_eq_of_lt hi]; omega, show (a * b + i) % b = i by rw [Nat.add_comm, Nat.add_mul_mod_self_right, Nat.mod_eq_of_lt hi]])
    rw [Nat.succ_mul, xs_add, xs_mul f g b hb a, h1, xs_and]
    simp only [xs]
    cases xs a f <;> cases f a <;> cases xs b g <;> rfl

/-- Taps of a width that give the first n bits. -/
def Gen (L : Nat) (c s : Nat → Bool) (n : Nat) : Prop := ∀ t, t + L < n → s (t + L) = xs L (fun i => c i && s (t + i))
theorem Gen.mono {L : Nat} {c s : Nat → Bool} {n m : Nat} (h : Gen L c s n) (hm : m ≤ n) : Gen L c s m := fun t ht => h t (by omega)
theorem Gen.far {L : Nat} {c s : Nat → Bool} {n : Nat} (h : n ≤ L) : Gen L c s n := fun t ht => by omega
theorem Gen.congr {L : Nat} {c s s' : Nat → Bool} {n : Nat} (h : Gen L c s n) (e : ∀ i, i < n → s i = s' i) : Gen L c s' n := fun t ht => by
  rw [← e _ ht, h t ht]
  exact xs_congr L (fun i hi => by rw [e _ (by omega)])
/-- Two recurrences of which one goes on go on together. -/
theorem gen_ext {L K : Nat} {c d s : Nat → Bool} {n : Nat} (h : Gen L c s n) (h' : Gen K d s (n + 1)) (hl : L + K ≤ n) : Gen L c s (n + 1) := by
  intro t ht
  by_cases hn : t + L < n
  · exact h t hn
  obtain ⟨u, rfl⟩ : ∃ u, t = u + K := ⟨t - K, by omega⟩
  have e : n = u + K + L := by omega
  subst e
  have h1 := h' (u + L) (by omega)
  rw [show u + K + L = u + L + K by omega, h1]
  refine (xs_congr (g := fun j => xs L (fun i => c i && (d j && s (u + i + j)))) K (fun j hj => ?_)).trans ?_
  · rw [show u + L + j = u + j + L by omega, h (u + j) (by omega), ← xs_and]
    exact xs_congr L (fun i hi => by rw [show u + j + i = u + i + j by omega]; cases d j <;> cases c i <;> rfl)
  rw [xs_swap (fun i j => c i && (d j && s (u + i + j)))]
  refine xs_congr L (fun i hi => ?_)
  rw [xs_and, ← h' (u + i) (by omega), show u + i + K = u + K + i by omega]

/-- Two recurrences that fail at their ends are mended by their sum. -/
theorem gen_fix {L K : Nat} {c d s : Nat → Bool} {n m Lx a e : Nat} (hc : Gen L c s n) (hcx : s n ≠ xs L (fun i => c i && s (n - L + i))) (hd : Gen K d s m) (hdx : s m ≠ xs K (fun i => d i && s (m - K + i)))
    (hLn : L ≤ n) (hKm : K ≤ m) (h1 : a + L = Lx) (h2 : e + K + n = Lx + m) (h3 : m < n) (hle : Lx ≤ n) : ∃ c', Gen Lx c' s (n + 1) := by
  refine ⟨fun i => (decide (a ≤ i) && (decide (i < a + L) && c (i - a))) ^^ (decide (i = e + K) ^^ (decide (e ≤ i) && (decide (i < e + K) && d (i - e)))), ?_⟩
  intro t ht
  have e1 : xs Lx (fun i => ((decide (a ≤ i) && (decide (i < a + L) && c (i - a))) ^^ (decide (i = e + K) ^^ (decide (e ≤ i) && (decide (i < e + K) && d (i - e))))) && s (t + i)) =
      (xs L (fun i => c i && s (t + a + i)) ^^ (s (t + (e + K)) ^^ xs K (fun i => d i && s (t + e + i)))) := by
    refine (xs_congr (g := fun i => (decide (a ≤ i) && (decide (i < a + L) && (c (i - a) && s (t + i)))) ^^ ((decide (i = e + K) && s (t + i)) ^^ (decide (e ≤ i) && (decide (i < e + K) && (d (i - e) && s (t + i)))))) Lx (fun i hi => ?_)).trans ?_
    · cases s (t + i) <;> simp
    have g1 : xs Lx (fun i => decide (a ≤ i) && (decide (i < a + L) && (c (i - a) && s (t + i)))) = xs L (fun i => c i && s (t + a + i)) :=
      (xs_part (f := fun i => c (i - a) && s (t + i)) (by omega)).trans (xs_congr L (fun i hi => by rw [show a + i - a = i by omega, Nat.add_assoc]))
    have g2 : xs Lx (fun i => decide (e ≤ i) && (decide (i < e + K) && (d (i - e) && s (t + i)))) = xs K (fun i => d i && s (t + e + i)) :=
      (xs_part (f := fun i => d (i - e) && s (t + i)) (by omega)).trans (xs_congr K (fun i hi => by rw [show e + i - e = i by omega, Nat.add_assoc]))
    have g3 : xs Lx (fun i => decide (i = e + K) && s (t + i)) = s (t + (e + K)) := xs_one (f := fun i => s (t + i)) (by omega)
    rw [xs_xor, xs_xor, g1, g2, g3]
  rw [e1]
  by_cases hn : t + Lx < n
  · have g1 := hc (t + a) (by omega)
    have g2 := hd (t + e) (by omega)
    rw [show t + Lx = t + a + L by omega, g1, show t + (e + K) = t + e + K by omega, g2]
    cases xs L (fun i => c i && s (t + a + i)) <;> cases xs K (fun i => d i && s (t + e + i)) <;> rfl
  · have hn : t + Lx = n := by omega
    have hm : t + (e + K) = m := by omega
    rw [show n - L = t + a by omega] at hcx
    rw [show m - K = t + e by omega] at hdx
    rw [hn, hm]
    cases h4 : s n <;> cases h5 : xs L (fun i => c i && s (t + a + i)) <;> cases h6 : s m <;> cases h7 : xs K (fun i => d i && s (t + e + i)) <;> simp_all

/-- The least width of the first bits, and how it came. -/
structure BM (L : Nat) (s : Nat → Bool) (n : Nat) : Prop where
  gen : ∃ c, Gen L c s n
  least : ∀ K d, Gen K d s n → L ≤ K
  prev : L = 0 ∨ ∃ m K d, m < n ∧ K ≤ m ∧ Gen K d s m ∧ s m ≠ xs K (fun i => d i && s (m - K + i)) ∧ L + K = m + 1
theorem BM.zero (s : Nat → Bool) : BM 0 s 0 := ⟨⟨s, Gen.far (Nat.le_refl _)⟩, fun _ _ _ => Nat.zero_le _, Or.inl rfl⟩
theorem BM.step {L : Nat} {s : Nat → Bool} {n : Nat} (h : BM L s n) : BM L s (n + 1) ∨ (L < n + 1 - L ∧ BM (n + 1 - L) s (n + 1)) := by
  by_cases hx : ∃ c, Gen L c s (n + 1)
  · refine Or.inl ⟨hx, fun K d hd => h.least K d (hd.mono (by omega)), ?_⟩
    rcases h.prev with h0 | ⟨m, K, d, h1, h2, h3, h4, h5⟩
    · exact Or.inl h0
    · exact Or.inr ⟨m, K, d, by omega, h2, h3, h4, h5⟩
  obtain ⟨c, hc⟩ := h.gen
  have hLn : L ≤ n := by
    apply Decidable.byContradiction
    intro hn
    exact hx ⟨c, Gen.far (by omega)⟩
  have hcx : s n ≠ xs L (fun i => c i && s (n - L + i)) := by
    intro e
    refine hx ⟨c, fun t ht => ?_⟩
    by_cases hn : t + L < n
    · exact hc t hn
    · have : t = n - L := by omega
      subst this
      rw [show n - L + L = n by omega]; exact e
  have low : ∀ K d, Gen K d s (n + 1) → L ≤ K ∧ n + 1 - L ≤ K := by
    intro K d hd
    refine ⟨h.least K d (hd.mono (by omega)), ?_⟩
    apply Decidable.byContradiction
    intro hn
    exact hx ⟨c, gen_ext hc hd (by omega)⟩
  by_cases h2 : L < n + 1 - L
  · refine Or.inr ⟨h2, ?_, fun K d hd => (low K d hd).2, Or.inr ⟨n, L, c, by omega, hLn, hc, hcx, by omega⟩⟩
    rcases h.prev with h0 | ⟨m, K, d, g1, g2, g3, g4, g5⟩
    · exact ⟨c, Gen.far (by omega)⟩
    · exact gen_fix (a := n + 1 - L - L) (e := 0) hc hcx g3 g4 hLn g2 (by omega) (by omega) g1 (by omega)
  · rcases h.prev with h0 | ⟨m, K, d, g1, g2, g3, g4, g5⟩
    · omega
    · refine Or.inl ⟨gen_fix (a := 0) (e := 2 * L - (n + 1)) hc hcx g3 g4 hLn g2 (by omega) (by omega) g1 (by omega), fun K d hd => (low K d hd).1, Or.inr ⟨m, K, d, by omega, g2, g3, g4, g5⟩⟩
theorem BM.ex (s : Nat → Bool) : ∀ n, ∃ L, BM L s n
  | 0 => ⟨0, BM.zero s⟩
  | n + 1 => by
    obtain ⟨L, h⟩ := BM.ex s n
    rcases h.step with h | ⟨_, h⟩
    · exact ⟨_, h⟩
    · exact ⟨_, h⟩
/-- The least width of recurrences. -/
def Lst (L : Nat) (s : Nat → Bool) (n : Nat) : Prop := (∃ c, Gen L c s n) ∧ ∀ K, K < L → ¬ ∃ c, Gen K c s n
theorem Lst.uniq {L K : Nat} {s : Nat → Bool} {n : Nat} (h : Lst L s n) (h' : Lst K s n) : L = K := by
  rcases Nat.lt_trichotomy L K with e | e | e
  · exact absurd h.1 (h'.2 L e)
  · exact e
  · exact absurd h'.1 (h.2 K e)
theorem BM.lst {L : Nat} {s : Nat → Bool} {n : Nat} (h : BM L s n) : Lst L s n := ⟨h.gen, fun K hK ⟨c, hc⟩ => by have := h.least K c hc; omega⟩
theorem Lst.le {L : Nat} {s : Nat → Bool} {n K : Nat} {d : Nat → Bool} (h : Lst L s n) (hd : Gen K d s n) : L ≤ K := by
  apply Decidable.byContradiction
  intro hn
  exact h.2 K (by omega) ⟨d, hd⟩
theorem lst_zero (s : Nat → Bool) : Lst 0 s 0 := (BM.zero s).lst
/-- How least widths grow. -/
theorem lst_step {L K : Nat} {s : Nat → Bool} {n : Nat} (h : Lst L s n) (h' : Lst K s (n + 1)) : K = L ∨ (L < K ∧ K = n + 1 - L) := by
  obtain ⟨M, hM⟩ := BM.ex s n
  obtain rfl := hM.lst.uniq h
  rcases hM.step with h1 | ⟨h1, h2⟩
  · exact Or.inl (h'.uniq h1.lst)
  · have := h'.uniq h2.lst; exact Or.inr ⟨by omega, this⟩
/-- A shortest recurrence of twice a width's bits goes on for ever. -/
theorem lst_far {L K W N : Nat} {c d s : Nat → Bool} (h : Gen L c s N) (hd : ∀ n, Gen K d s n) (hL : L ≤ W) (hK : K ≤ W) (hN : 2 * W ≤ N) : ∀ n, Gen L c s n := by
  intro n
  by_cases hn : n ≤ N
  · exact h.mono hn
  obtain ⟨k, rfl⟩ : ∃ k, n = N + k := ⟨n - N, by omega⟩
  clear hn
  induction k with
  | zero => exact h
  | succ k ih => exact gen_ext (n := N + k) ih (hd _) (by omega)

/-- A number of bits. -/
def ofB : Nat → (Nat → Bool) → Nat
  | 0, _ => 0
  | n + 1, f => ofB n f ||| (f n).toNat * 2 ^ n
theorem ofB_lt (f : Nat → Bool) : ∀ n, ofB n f < 2 ^ n
  | 0 => by simp [ofB]
  | n + 1 => by
    have := ofB_lt f n
    rw [ofB]
    refine Nat.or_lt_two_pow (Nat.lt_trans this (Nat.pow_lt_pow_right (by decide) (by omega))) ?_
    rw [Nat.pow_succ]
    have := Nat.two_pow_pos n
    cases f n <;> simp <;> omega
theorem bit_mul (b : Bool) (n i : Nat) : (b.toNat * 2 ^ n).testBit i = (decide (i = n) && b) := by
  cases b
  · simp
  · simp only [Bool.toNat_true, Nat.one_mul, Nat.testBit_two_pow, Bool.and_true]
    exact decide_eq_decide.2 ⟨fun h => h.symm, fun h => h.symm⟩
theorem ofB_testBit (f : Nat → Bool) : ∀ n i, (ofB n f).testBit i = (decide (i < n) && f i)
  | 0, i => by simp [ofB]
  | n + 1, i => by
    rw [ofB, Nat.testBit_or, ofB_testBit f n i, bit_mul]
    by_cases h1 : i = n
    · subst h1; simp
    · by_cases h2 : i < n
      · simp [h1, h2, Nat.lt_succ_of_lt h2]
      · have : ¬ i < n + 1 := by omega
        simp [h1, h2, this]
theorem ofB_congr {f g : Nat → Bool} : ∀ n, (∀ i, i < n → f i = g i) → ofB n f = ofB n g
  | 0, _ => rfl
  | n + 1, h => by rw [ofB, ofB, ofB_congr n (fun i hi => h i (by omega)), h n (by omega)]
theorem parF_xs : ∀ (k n : Nat), parF k n = (xs k n.testBit).toNat
  | 0, n => rfl
  | k + 1, n => by
    rw [xs_first, show (fun i => n.testBit (i + 1)) = (n / 2).testBit from funext fun i => Nat.testBit_succ n i]
    show n % 2 ^^^ parF k (n / 2) = _
    rw [parF_xs k (n / 2), Nat.testBit_zero]
    have : n % 2 = 0 ∨ n % 2 = 1 := by omega
    rcases this with h | h <;> rw [h] <;> cases xs k (n / 2).testBit <;> rfl
theorem par_xs {k n : Nat} (h : n < 2 ^ k) (hk : k ≤ 64) : par n = (xs k n.testBit).toNat := by rw [par_eq h hk, parF_xs]
theorem par_and {k a b : Nat} (h : a < 2 ^ k) (hk : k ≤ 64) : par (a &&& b) = (xs k (fun i => a.testBit i && b.testBit i)).toNat := by
  rw [par_xs (k := k) (Nat.lt_of_le_of_lt Nat.and_le_left h) hk]
  congr 1
  exact xs_congr k (fun i _ => Nat.testBit_and a b i)
/-- The equations for taps of a width. -/
def eqsF (s : Nat → Bool) (w : Nat) : Nat → Nat → List Nat
  | _, 0 => []
  | t, m + 1 => ofB (w + 1) (fun i => s (t + i)) :: eqsF s w (t + 1) m
theorem eqsF_mem {s : Nat → Bool} {w : Nat} : ∀ {m t e : Nat}, e ∈ eqsF s w t m ↔ ∃ i, i < m ∧ e = ofB (w + 1) (fun k => s (t + i + k))
  | 0, t, e => by simp [eqsF]
  | m + 1, t, e => by
    rw [eqsF, List.mem_cons, eqsF_mem]
    constructor
    · rintro (h | ⟨i, h, h'⟩)
      · exact ⟨0, by omega, h⟩
      · exact ⟨i + 1, by omega, by rw [h']; congr 1; funext k; congr 1; omega⟩
    · rintro ⟨i, h, h'⟩
      cases i with
      | zero => exact Or.inl h'
      | succ i => exact Or.inr ⟨i, by omega, by rw [h']; congr 1; funext k; congr 1; omega⟩
theorem eqsF_lt {s : Nat → Bool} {w m t : Nat} : ∀ e ∈ eqsF s w t m, e < 2 ^ (w + 1) := by
  intro e he
  obtain ⟨i, _, rfl⟩ := eqsF_mem.1 he
  exact ofB_lt _ _
theorem eqsF_len {s : Nat → Bool} {w : Nat} : ∀ {m t : Nat}, (eqsF s w t m).length = m
  | 0, _ => rfl
  | m + 1, t => by rw [eqsF, List.length_cons, eqsF_len]
theorem sol_gen {s : Nat → Bool} {w n X : Nat} (hw : w < 64) (hX : X < 2 ^ (w + 1)) (hb : X.testBit w = true) : Sol w (eqsF s w 0 (n - w)) X ↔ Gen w X.testBit s n := by
  have key : ∀ t, par (ofB (w + 1) (fun k => s (0 + t + k)) &&& X) = 0 ↔ s (t + w) = xs w (fun i => X.testBit i && s (t + i)) := by
    intro t
    have h1 : xs w (fun i => (ofB (w + 1) (fun k => s (0 + t + k))).testBit i && X.testBit i) = xs w (fun i => X.testBit i && s (t + i)) := xs_congr w (fun i hi => by
      rw [ofB_testBit]
      have : i < w + 1 := by omega
      simp [this, Bool.and_comm])
    rw [par_and (ofB_lt _ _) (by omega), xs, h1, ofB_testBit, hb]
    simp only [Nat.zero_add, Nat.lt_succ_self, decide_true, Bool.true_and, Bool.and_true]
    cases xs w (fun i => X.testBit i && s (t + i)) <;> cases s (t + w) <;> simp
  constructor
  · rintro ⟨_, _, h⟩ t ht
    exact (key t).1 (h _ (eqsF_mem.2 ⟨t, by omega, rfl⟩))
  · intro h
    refine ⟨hX, hb, fun e he => ?_⟩
    obtain ⟨t, ht, rfl⟩ := eqsF_mem.1 he
    exact (key t).2 (h t (by omega))
theorem can_gen {s : Nat → Bool} {w n : Nat} (hw : w < 64) : can w (eqsF s w 0 (n - w)) = true ↔ ∃ c, Gen w c s n := by
  rw [can_iff hw eqsF_lt]
  constructor
  · rintro ⟨X, h⟩
    exact ⟨_, (sol_gen hw h.1 h.2.1).1 h⟩
  · rintro ⟨c, h⟩
    have hb : (ofB w c ||| 2 ^ w).testBit w = true := by simp
    have hX : (ofB w c ||| 2 ^ w) < 2 ^ (w + 1) := (full_lt (ofB_lt c w)).1
    refine ⟨_, (sol_gen hw hX hb).2 fun t ht => ?_⟩
    rw [h t ht]
    refine xs_congr w (fun i hi => ?_)
    rw [full_low hi, ofB_testBit]
    simp [hi]

/-- A sequence is a sum of some of the first ones. -/
def Span (d : Nat) (E : Nat → Nat → Bool) (s : Nat → Bool) : Prop := ∃ a : Nat → Bool, ∀ t, s t = xs d (fun i => a i && E i t)
/-- A sequence that lies, with all that follow, in the sums of some sequences. -/
def Dim (d : Nat) (s : Nat → Bool) : Prop := ∃ E : Nat → Nat → Bool, Span d E s ∧ ∀ i, i < d → Span d E (fun t => E i (t + 1))
theorem Span.shift {d : Nat} {E : Nat → Nat → Bool} {s : Nat → Bool} (h : Span d E s) (hE : ∀ i, i < d → Span d E (fun t => E i (t + 1))) : Span d E (fun t => s (t + 1)) := by
  obtain ⟨a, ha⟩ := h
  have hE' : ∀ i, ∃ b : Nat → Bool, i < d → ∀ t, E i (t + 1) = xs d (fun k => b k && E k t) := by
    intro i
    by_cases hi : i < d
    · obtain ⟨b, hb⟩ := hE i hi; exact ⟨b, fun _ => hb⟩
    · exact ⟨fun _ => false, fun h => absurd h hi⟩
  refine ⟨fun k => xs d (fun i => a i && (Classical.choose (hE' i)) k), fun t => ?_⟩
  show s (t + 1) = xs d (fun k => xs d (fun i => a i && (Classical.choose (hE' i)) k) && E k t)
  rw [ha (t + 1)]
  refine (xs_congr (g := fun i => xs d (fun k => (a i && (Classical.choose (hE' i)) k) && E k t)) d (fun i hi => ?_)).trans ?_
  · rw [Classical.choose_spec (hE' i) hi t, ← xs_and]
    exact xs_congr d (fun k _ => by rw [Bool.and_assoc])
  rw [xs_swap (fun k i => (a i && (Classical.choose (hE' i)) k) && E k t)]
  refine xs_congr d (fun k _ => ?_)
  refine (xs_congr (g := fun i => E k t && (a i && (Classical.choose (hE' i)) k)) d (fun i _ => by rw [Bool.and_comm])).trans ?_
  rw [xs_and, Bool.and_comm]
theorem Span.far {d : Nat} {E : Nat → Nat → Bool} {s : Nat → Bool} (h : Span d E s) (hE : ∀ i, i < d → Span d E (fun t => E i (t + 1))) : ∀ k, Span d E (fun t => s (t + k))
  | 0 => h
  | k + 1 => by
    have := (Span.far h hE k).shift hE
    obtain ⟨a, ha⟩ := this
    exact ⟨a, fun t => by have h1 := ha t; simp only at h1; rw [← h1]; show s (t + (k + 1)) = _; rw [show t + (k + 1) = t + 1 + k by omega]⟩
/-- What a mask adds up. -/
def msum (v : Nat → Nat) : Nat → Nat → Nat
  | 0, _ => 0
  | n + 1, x => msum v n x ^^^ (if x.testBit n then v n else 0)
theorem msum_xor (v : Nat → Nat) (x y : Nat) : ∀ n, msum v n (x ^^^ y) = msum v n x ^^^ msum v n y
  | 0 => by simp [msum]
  | n + 1 => by
    rw [msum, msum, msum, msum_xor v x y n, Nat.testBit_xor]
    have e : (if (x.testBit n ^^ y.testBit n) = true then v n else 0) = (if x.testBit n then v n else 0) ^^^ (if y.testBit n then v n else 0) := by
      cases x.testBit n <;> cases y.testBit n <;> simp
    rw [e]
    simp only [Nat.xor_assoc]
    rw [← Nat.xor_assoc (msum v n y), Nat.xor_comm (msum v n y), Nat.xor_assoc]
theorem msum_lt {v : Nat → Nat} {d : Nat} (h : ∀ i, v i < 2 ^ d) (x : Nat) : ∀ n, msum v n x < 2 ^ d
  | 0 => Nat.two_pow_pos d
  | n + 1 => by
    rw [msum]
    refine Nat.xor_lt_two_pow (msum_lt h x n) ?_
    split
    · exact h n
    · exact Nat.two_pow_pos d
theorem msum_testBit (v : Nat → Nat) (x j : Nat) : ∀ n, (msum v n x).testBit j = xs n (fun i => x.testBit i && (v i).testBit j)
  | 0 => by simp [msum, xs]
  | n + 1 => by
    rw [msum, xs, Nat.testBit_xor, msum_testBit v x j n]
    cases x.testBit n <;> simp
theorem msum_top {v : Nat → Nat} {x i : Nat} : ∀ {n : Nat}, i < n → (∀ j, i < j → j < n → x.testBit j = false) → msum v n x = msum v (i + 1) x
  | 0, h, _ => by omega
  | n + 1, h, hx => by
    by_cases hi : i = n
    · subst hi; rfl
    · rw [msum, hx n (by omega) (by omega), msum_top (n := n) (by omega) (fun j h1 h2 => hx j h1 (by omega))]
      simp
/-- One vector more than there are coordinates: one is a sum of those before it. -/
theorem dep {d : Nat} (v : Nat → Nat) (h : ∀ i, v i < 2 ^ d) : ∃ k, k ≤ d ∧ ∃ c : Nat → Bool, ∀ j, (v k).testBit j = xs k (fun i => c i && (v i).testBit j) := by
  have hn : ¬ ∀ a, a < 2 ^ (d + 1) → ∀ b, b < 2 ^ (d + 1) → msum v (d + 1) a = msum v (d + 1) b → a = b := by
    intro hi
    have h1 := nodup_le ((List.range (2 ^ (d + 1))).map (msum v (d + 1))) (List.range (2 ^ d)) (nodup_map List.nodup_range (fun a ha b hb e => hi a (List.mem_range.1 ha) b (List.mem_range.1 hb) e)) (fun x hx => by
      obtain ⟨a, _, rfl⟩ := List.mem_map.1 hx
      exact List.mem_range.2 (msum_lt h a _))
    rw [List.length_map, List.length_range, List.length_range, Nat.pow_succ] at h1
    have := Nat.two_pow_pos d
    omega
  have : ∃ a b, a < 2 ^ (d + 1) ∧ b < 2 ^ (d + 1) ∧ msum v (d + 1) a = msum v (d + 1) b ∧ a ≠ b := by
    apply Classical.byContradiction
    intro hc
    refine hn fun a ha b hb e => ?_
    apply Classical.byContradiction
    intro hab
    exact hc ⟨a, b, ha, hb, e, hab⟩
  obtain ⟨a, b, ha, hb, e, hab⟩ := this
  obtain ⟨k, hk, h1, h2⟩ := top_diff (d + 1) ha hb hab
  refine ⟨k, by omega, (a ^^^ b).testBit, fun j => ?_⟩
  have hz : msum v (d + 1) (a ^^^ b) = 0 := by rw [msum_xor, e, Nat.xor_self]
  rw [msum_top (i := k) hk (fun j h3 _ => by rw [Nat.testBit_xor, h2 j h3, Bool.xor_self])] at hz
  have h3 := msum_testBit v (a ^^^ b) j (k + 1)
  have hkb : (a ^^^ b).testBit k = true := by
    rw [Nat.testBit_xor]
    cases h4 : a.testBit k <;> cases h5 : b.testBit k <;> rw [h4, h5] at h1 <;> first | rfl | exact absurd rfl h1
  rw [hz, xs, Nat.zero_testBit, hkb] at h3
  cases h6 : (v k).testBit j <;> cases h7 : xs k (fun i => (a ^^^ b).testBit i && (v i).testBit j) <;> rw [h6, h7] at h3 <;> simp_all
/-- A sequence of a dimension has a recurrence of at most this width. -/
theorem dim_gen {d : Nat} {s : Nat → Bool} (h : Dim d s) : ∃ k, k ≤ d ∧ ∃ c, ∀ n, Gen k c s n := by
  obtain ⟨E, hs, hE⟩ := h
  have hk : ∀ k, ∃ v : Nat, v < 2 ^ d ∧ ∀ t, s (t + k) = xs d (fun j => v.testBit j && E j t) := by
    intro k
    obtain ⟨a, ha⟩ := hs.far hE k
    exact ⟨ofB d a, ofB_lt _ _, fun t => (ha t).trans (xs_congr d (fun j hj => by rw [ofB_testBit]; simp [hj]))⟩
  obtain ⟨v, hv⟩ := Classical.skolem.1 hk
  obtain ⟨k, hkd, c, hc⟩ := dep (d := d) v (fun i => (hv i).1)
  refine ⟨k, hkd, c, fun n t _ => ?_⟩
  have hsp : ∀ i t, s (t + i) = xs d (fun j => (v i).testBit j && E j t) := fun i => (hv i).2
  rw [hsp k t]
  refine (xs_congr (g := fun j => xs k (fun i => c i && ((v i).testBit j && E j t))) d (fun j _ => ?_)).trans ?_
  · rw [hc j, Bool.and_comm, ← xs_and]
    exact xs_congr k (fun i _ => by
      cases c i <;> cases (v i).testBit j <;> cases E j t <;> rfl)
  rw [xs_swap (fun i j => c i && ((v i).testBit j && E j t))]
  refine xs_congr k (fun i _ => ?_)
  rw [xs_and, ← hsp i t]
theorem Dim.congr {d : Nat} {s s' : Nat → Bool} (h : Dim d s) (e : ∀ t, s t = s' t) : Dim d s' := by
  rw [show s' = s from funext fun t => (e t).symm]; exact h
theorem Dim.none : Dim 0 (fun _ => false) := ⟨fun _ _ => false, ⟨fun _ => false, fun _ => rfl⟩, fun i hi => by omega⟩
theorem Dim.one : Dim 1 (fun _ => true) := ⟨fun _ _ => true, ⟨fun _ => true, fun _ => rfl⟩, fun i hi => ⟨fun _ => true, fun _ => rfl⟩⟩
theorem Span.left {d e : Nat} {E F : Nat → Nat → Bool} {s : Nat → Bool} (h : Span d E s) : Span (d + e) (fun i => if i < d then E i else F (i - d)) s := by
  obtain ⟨a, ha⟩ := h
  refine ⟨fun i => decide (i < d) && a i, fun t => ?_⟩
  have h1 : xs e (fun i => (decide (d + i < d) && a (d + i)) && (if d + i < d then E (d + i) else F (d + i - d)) t) = false := xs_zero e (fun i hi => by
    have : ¬ d + i < d := by omega
    simp [this])
  rw [xs_add, h1, ha t, Bool.xor_false]
  exact xs_congr d (fun i hi => by simp [hi])
theorem Span.right {d e : Nat} {E F : Nat → Nat → Bool} {s : Nat → Bool} (h : Span e F s) : Span (d + e) (fun i => if i < d then E i else F (i - d)) s := by
  obtain ⟨a, ha⟩ := h
  refine ⟨fun i => !decide (i < d) && a (i - d), fun t => ?_⟩
  have h1 : xs d (fun i => (!decide (i < d) && a (i - d)) && (if i < d then E i else F (i - d)) t) = false := xs_zero d (fun i hi => by simp [hi])
  rw [xs_add, h1, ha t, Bool.false_xor]
  exact xs_congr e (fun i hi => by
    have : ¬ d + i < d := by omega
    simp [this])
theorem Span.xor {d : Nat} {E : Nat → Nat → Bool} {s u : Nat → Bool} (h : Span d E s) (h' : Span d E u) : Span d E (fun t => s t ^^ u t) := by
  obtain ⟨a, ha⟩ := h
  obtain ⟨b, hb⟩ := h'
  refine ⟨fun i => a i ^^ b i, fun t => ?_⟩
  show (s t ^^ u t) = _
  rw [ha t, hb t, ← xs_xor]
  exact xs_congr d (fun i _ => by
    show _ = ((a i ^^ b i) && E i t)
    cases a i <;> cases b i <;> cases E i t <;> rfl)
theorem Dim.add {d e : Nat} {s u : Nat → Bool} (h : Dim d s) (h' : Dim e u) : Dim (d + e) (fun t => s t ^^ u t) := by
  obtain ⟨E, hs, hE⟩ := h
  obtain ⟨F, hu, hF⟩ := h'
  refine ⟨fun i => if i < d then E i else F (i - d), hs.left.xor hu.right, fun i hi => ?_⟩
  by_cases h1 : i < d
  · simp only [h1, if_true]; exact (hE i h1).left
  · simp only [h1, if_false]; exact (hF (i - d) (by omega)).right
theorem Span.mul {d e : Nat} {E F : Nat → Nat → Bool} {s u : Nat → Bool} (he : 0 < e) (h : Span d E s) (h' : Span e F u) : Span (d * e) (fun k t => E (k / e) t && F (k % e) t) (fun t => s t && u t) := by
  obtain ⟨a, ha⟩ := h
  obtain ⟨b, hb⟩ := h'
  refine ⟨fun k => a (k / e) && b (k % e), fun t => ?_⟩
  show (s t && u t) = _
  rw [ha t, hb t, ← xs_mul (fun i => a i && E i t) (fun j => b j && F j t) e he d]
  exact xs_congr _ (fun k _ => by
    show _ = ((a (k / e) && b (k % e)) && (E (k / e) t && F (k % e) t))
    cases a (k / e) <;> cases b (k % e) <;> cases E (k / e) t <;> cases F (k % e) t <;> rfl)
theorem Dim.mul {d e : Nat} {s u : Nat → Bool} (h : Dim d s) (h' : Dim e u) : Dim (d * e) (fun t => s t && u t) := by
  obtain ⟨E, hs, hE⟩ := h
  obtain ⟨F, hu, hF⟩ := h'
  rcases Nat.eq_zero_or_pos e with he | he
  · subst he
    obtain ⟨b, hb⟩ := hu
    exact Dim.none.congr fun t => by rw [hb t]; simp [xs]
  · refine ⟨_, hs.mul he hu, fun k hk => ?_⟩
    have h1 : k / e < d := by rw [Nat.div_lt_iff_lt_mul he]; exact hk
    exact (hE _ h1).mul he (hF _ (Nat.mod_lt _ he))
end Go.Wd
