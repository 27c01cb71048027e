/- Words: steps one after another, what is solved once is solved everywhere, counts of solutions. Nothing is claimed here; no condition. -/
import Derived.Test.YthkdbkjkccogfaaDoorWx
namespace Go.Wd

/-! ### Steps -/
def steps (A : List Nat) : Nat → Nat → Nat
  | 0, s => s
  | n + 1, s => steps A n (app A s)
theorem steps_add (A : List Nat) : ∀ (a b s : Nat), steps A (a + b) s = steps A b (steps A a s)
  | 0, b, s => by rw [Nat.zero_add]; rfl
  | a + 1, b, s => by
    rw [show a + 1 + b = (a + b) + 1 by omega]
    exact steps_add A a b (app A s)
theorem steps_one (A : List Nat) (n s : Nat) : steps A (n + 1) s = app A (steps A n s) := steps_add A n 1 s
theorem steps_times (A : List Nat) (h : A.length ≤ 64) : ∀ (m s : Nat), steps (times A A) m s = steps A (2 * m) s
  | 0, _ => rfl
  | m + 1, s => by
    rw [show 2 * (m + 1) = (2 * m + 1) + 1 by omega]
    show steps (times A A) m (app (times A A) s) = steps A (2 * m) (app A (app A s))
    rw [app_times A A s h, steps_times A h m]
theorem jump_steps : ∀ (k : Nat) (A : List Nat) (s n : Nat), A.length ≤ 64 → n < 2 ^ k → jump k A s n = steps A n s
  | 0, A, s, n, _, h => by
    obtain rfl : n = 0 := by simpa using h
    rfl
  | k + 1, A, s, n, hA, h => by
    unfold jump
    by_cases h0 : n = 0
    · rw [if_pos h0, h0]; rfl
    · have h2 : n / 2 < 2 ^ k := by rw [Nat.pow_succ] at h; omega
      rw [if_neg h0, jump_steps k (times A A) _ (n / 2) (by rw [times_length]; exact hA) h2, steps_times A hA]
      by_cases h1 : n % 2 = 1
      · rw [if_pos h1]
        conv => rhs; rw [show n = 2 * (n / 2) + 1 by omega]
        rfl
      · rw [if_neg h1]
        conv => rhs; rw [show n = 2 * (n / 2) by omega]
theorem steps_lt {A : List Nat} : ∀ (n : Nat) {s : Nat}, s < 2 ^ A.length → steps A n s < 2 ^ A.length
  | 0, _, h => h
  | n + 1, s, _ => steps_lt n (app_lt A s)

/-! ### Lists without repetition -/
theorem nodup_le : ∀ (l m : List Nat), l.Nodup → (∀ x ∈ l, x ∈ m) → l.length ≤ m.length
  | [], _, _, _ => Nat.zero_le _
  | x :: l, m, hd, hs => by
    have hx := hs x (by simp)
    obtain ⟨h1, h2⟩ := List.nodup_cons.1 hd
    have h := nodup_le l (m.erase x) h2 (fun y hy => by
      have hyx : y ≠ x := fun e => h1 (e ▸ hy)
      exact (List.mem_erase_of_ne hyx).2 (hs y (by simp [hy])))
    have hp : 0 < m.length := List.length_pos_of_mem hx
    rw [List.length_erase_of_mem hx] at h
    simp only [List.length_cons]
    omega
theorem nodup_map {f : Nat → Nat} : ∀ {l : List Nat}, l.Nodup → (∀ a ∈ l, ∀ b ∈ l, f a = f b → a = b) → (l.map f).Nodup
  | [], _, _ => by simp
  | x :: l, hd, hi => by
    obtain ⟨h1, h2⟩ := List.nodup_cons.1 hd
    rw [List.map_cons, List.nodup_cons]
    refine ⟨fun h => ?_, nodup_map h2 fun a ha b hb => hi a (by simp [ha]) b (by simp [hb])⟩
    obtain ⟨y, hy, he⟩ := List.mem_map.1 h
    exact h1 (hi y (by simp [hy]) x (by simp) he ▸ hy)
/-- What repeats nothing hits everything. -/
theorem onto {N : Nat} {f : Nat → Nat} (hf : ∀ x, x < N → f x < N) (hi : ∀ a, a < N → ∀ b, b < N → f a = f b → a = b) {y : Nat} (hy : y < N) : ∃ x, x < N ∧ f x = y := by
  refine Classical.byContradiction fun hc => ?_
  have hn : (y :: (List.range N).map f).Nodup := by
    rw [List.nodup_cons]
    refine ⟨fun h => ?_, nodup_map List.nodup_range fun a ha b hb => hi a (List.mem_range.1 ha) b (List.mem_range.1 hb)⟩
    obtain ⟨x, hx, he⟩ := List.mem_map.1 h
    exact hc ⟨x, List.mem_range.1 hx, he⟩
  have := nodup_le _ (List.range N) hn (fun x hx => by
    rcases List.mem_cons.1 hx with rfl | hx
    · exact List.mem_range.2 hy
    · obtain ⟨z, hz, rfl⟩ := List.mem_map.1 hx
      exact List.mem_range.2 (hf z (List.mem_range.1 hz)))
  simp at this
  omega

/-! ### Rows are linear -/
theorem app_xor (A : List Nat) (x y : Nat) : app A (x ^^^ y) = app A x ^^^ app A y := by
  apply Nat.eq_of_testBit_eq
  intro i
  rw [Nat.testBit_xor, app_testBit, app_testBit, app_testBit, Nat.and_xor_distrib_left, par_xor]
  have h1 := par_lt (A.getD i 0 &&& x)
  have h2 := par_lt (A.getD i 0 &&& y)
  generalize par (A.getD i 0 &&& x) = p at *
  generalize par (A.getD i 0 &&& y) = q at *
  have hp : p = 0 ∨ p = 1 := by omega
  have hq : q = 0 ∨ q = 1 := by omega
  rcases hp with rfl | rfl <;> rcases hq with rfl | rfl <;> simp
theorem app_zero (A : List Nat) : app A 0 = 0 := by
  induction A with
  | nil => rfl
  | cons r A ih => simp [app, ih, par_zero]

/-- An equation at a state. -/
theorem par_eqn {w r b x : Nat} (hw : w < 64) (hr : r < 2 ^ w) (hx : x < 2 ^ w) (hb : b ≤ 1) : par ((r ||| b * 2 ^ w) &&& (x ||| 2 ^ w)) = par (r &&& x) ^^^ b := by
  have e : (r ||| b * 2 ^ w) &&& (x ||| 2 ^ w) = (r &&& x) ^^^ (b * 2 ^ w) := by
    apply Nat.eq_of_testBit_eq
    intro i
    simp only [Nat.testBit_and, Nat.testBit_or, Nat.testBit_xor, Nat.testBit_two_pow, Nat.testBit_mul_two_pow]
    have hr' : w ≤ i → r.testBit i = false := fun h => Nat.testBit_lt_two_pow (Nat.lt_of_lt_of_le hr (Nat.pow_le_pow_right (by decide) h))
    have hx' : w ≤ i → x.testBit i = false := fun h => Nat.testBit_lt_two_pow (Nat.lt_of_lt_of_le hx (Nat.pow_le_pow_right (by decide) h))
    by_cases h : w ≤ i
    · rw [hr' h, hx' h]
      by_cases h2 : w = i
      · simp [h2]
      · have hb2 : b.testBit (i - w) = false := by
          rcases (show b = 0 ∨ b = 1 by omega) with rfl | rfl
          · simp
          · rw [show (1 : Nat) = 2 ^ 0 from rfl, Nat.testBit_two_pow]; simp; omega
        simp [h2, hb2]
    · have h2 : ¬ w = i := by omega
      simp [h, h2]
  rw [e, par_xor]
  congr 1
  rcases (show b = 0 ∨ b = 1 by omega) with rfl | rfl
  · simp [par_zero]
  · rw [Nat.one_mul, par_two_pow hw]

/-- A state with the bit for the right sides. -/
theorem full_lt {w x : Nat} (hx : x < 2 ^ w) : (x ||| 2 ^ w) < 2 ^ (w + 1) ∧ (x ||| 2 ^ w).testBit w = true := by
  refine ⟨Nat.or_lt_two_pow (Nat.lt_of_lt_of_le hx (Nat.pow_le_pow_right (by decide) (by omega))) (Nat.pow_lt_pow_right (by decide) (by omega)), ?_⟩
  rw [Nat.testBit_or, Nat.testBit_two_pow]; simp
theorem full_low {w x i : Nat} (hx : i < w) : (x ||| 2 ^ w).testBit i = x.testBit i := by
  rw [Nat.testBit_or, Nat.testBit_two_pow]
  have : ¬ w = i := by omega
  simp [this]
theorem full_of {w X : Nat} (h : X < 2 ^ (w + 1)) (hw : X.testBit w = true) : X = (X % 2 ^ w) ||| 2 ^ w := by
  apply Nat.eq_of_testBit_eq
  intro i
  rw [Nat.testBit_or, Nat.testBit_mod_two_pow, Nat.testBit_two_pow]
  by_cases h1 : i < w
  · have : ¬ w = i := by omega
    simp [h1, this]
  · by_cases h2 : w = i
    · subst h2; simp [hw]
    · rw [Nat.testBit_lt_two_pow (Nat.lt_of_lt_of_le h (Nat.pow_le_pow_right (by decide) (by omega)))]
      simp [h1, h2]
theorem full_mod {w x : Nat} (hx : x < 2 ^ w) : (x ||| 2 ^ w) % 2 ^ w = x := by
  apply Nat.eq_of_testBit_eq
  intro i
  rw [Nat.testBit_mod_two_pow]
  by_cases h1 : i < w
  · rw [full_low h1]; simp [h1]
  · rw [Nat.testBit_lt_two_pow (Nat.lt_of_lt_of_le hx (Nat.pow_le_pow_right (by decide) (by omega)))]
    simp [h1]
theorem full_inj {w x y : Nat} (hx : x < 2 ^ w) (hy : y < 2 ^ w) (h : x ||| 2 ^ w = y ||| 2 ^ w) : x = y := by
  rw [← full_mod hx, h, full_mod hy]
/-- The solutions as states. -/
def SolS (w : Nat) (es : List Nat) (x : Nat) : Prop := ∀ e ∈ es, par (e &&& (x ||| 2 ^ w)) = 0
theorem sol_full {w : Nat} {es : List Nat} {x : Nat} (hx : x < 2 ^ w) : Sol w es (x ||| 2 ^ w) ↔ SolS w es x := ⟨fun h => h.2.2, fun h => ⟨(full_lt hx).1, (full_lt hx).2, h⟩⟩

/-- No bit is free: one solution at most. -/
theorem full_rank {w : Nat} (hw : w < 64) {rows : List Nat} (h : Red w rows) (hl : rows.length = w) {X Y : Nat} (hX : Sol w rows X) (hY : Sol w rows Y) : X = Y := by
  have hL := h.low
  have hmap := map_fst w rows
  have hall : ∀ i, i < w → i ∈ (rows.map fun r => (r, lead w r)).map Prod.snd := by
    intro i hi
    refine Classical.byContradiction fun hc => ?_
    have hnd : (i :: (rows.map fun r => (r, lead w r)).map Prod.snd).Nodup := List.nodup_cons.2 ⟨hc, hL.dis⟩
    have := nodup_le _ (List.range w) hnd (fun x hx => by
      rcases List.mem_cons.1 hx with rfl | hx
      · exact List.mem_range.2 hi
      · obtain ⟨p, hp, rfl⟩ := List.mem_map.1 hx
        exact List.mem_range.2 (hL.ok p hp).2.1)
    simp [hl] at this
    omega
  have hag := low_agree hw hL (X := X) (Y := Y) (by rw [hmap]; exact hX) (by rw [hmap]; exact hY) (k := 0) (fun i _ hi => by
    by_cases hiw : i < w
    · exact absurd (hall i hiw) hi
    · by_cases h2 : i = w
      · subst h2; rw [hX.2.1, hY.2.1]
      · have hp : 2 ^ (w + 1) ≤ 2 ^ i := Nat.pow_le_pow_right (by decide) (by omega)
        rw [Nat.testBit_lt_two_pow (Nat.lt_of_lt_of_le hX.1 hp), Nat.testBit_lt_two_pow (Nat.lt_of_lt_of_le hY.1 hp)])
  exact Nat.eq_of_testBit_eq fun i => hag i (Nat.zero_le _)
/-- A bit is free: more solutions than one. -/
theorem free_rank {w : Nat} (hw : w < 64) {rows : List Nat} (h : Red w rows) (hl : rows.length < w) : ∃ X Y, Sol w rows X ∧ Sol w rows Y ∧ X ≠ Y := by
  have hL := h.low
  have hmap := map_fst w rows
  obtain ⟨c, hc, hcn⟩ : ∃ c, c < w ∧ c ∉ (rows.map fun r => (r, lead w r)).map Prod.snd := by
    refine Classical.byContradiction fun hc => ?_
    have := nodup_le (List.range w) ((rows.map fun r => (r, lead w r)).map Prod.snd) List.nodup_range (fun x hx => by
      refine Classical.byContradiction fun h2 => hc ⟨x, List.mem_range.1 hx, h2⟩)
    simp at this
    omega
  have z1 : 2 ^ w < 2 ^ (w + 1) := Nat.pow_lt_pow_right (by decide) (by omega)
  obtain ⟨X, hX, x2⟩ := low_exists hw hL (Z := 2 ^ w) z1 (by rw [Nat.testBit_two_pow]; simp)
  have z2 := full_lt (w := w) (x := 2 ^ c) (Nat.pow_lt_pow_right (by decide) hc)
  obtain ⟨Y, hY, y2⟩ := low_exists hw hL z2.1 z2.2
  rw [hmap] at hX hY
  refine ⟨X, Y, hX, hY, fun e => ?_⟩
  have h1 := x2 c hcn
  have h2 := y2 c hcn
  rw [e, h2, full_low hc, Nat.testBit_two_pow, Nat.testBit_two_pow] at h1
  have : ¬ w = c := by omega
  simp [this] at h1

/-! ### Counts -/
def cnt : Nat → (Nat → Bool) → Nat
  | 0, p => if p 0 = true then 1 else 0
  | k + 1, p => cnt k p + cnt k (fun x => p (x + 2 ^ k))
theorem cnt_congr : ∀ (k : Nat) {p q : Nat → Bool}, (∀ x, x < 2 ^ k → p x = q x) → cnt k p = cnt k q
  | 0, p, q, h => by simp [cnt, h 0 (by decide)]
  | k + 1, p, q, h => by
    have h2 : 2 ^ (k + 1) = 2 ^ k + 2 ^ k := by rw [Nat.pow_succ]; omega
    simp only [cnt]
    rw [cnt_congr k (fun x hx => h x (by omega)), cnt_congr k (fun x hx => h (x + 2 ^ k) (by omega))]
theorem cnt_true : ∀ (k : Nat), cnt k (fun _ => true) = 2 ^ k
  | 0 => rfl
  | k + 1 => by simp only [cnt]; rw [cnt_true k, Nat.pow_succ]; omega
theorem cnt_split : ∀ (k : Nat) (p q : Nat → Bool), cnt k p = cnt k (fun x => p x && q x) + cnt k (fun x => p x && !q x)
  | 0, p, q => by
    simp only [cnt]
    by_cases h1 : p 0 = true <;> by_cases h2 : q 0 = true <;> simp [h1, h2]
  | k + 1, p, q => by
    simp only [cnt]
    rw [cnt_split k p q, cnt_split k (fun x => p (x + 2 ^ k)) (fun x => q (x + 2 ^ k))]
    omega
theorem flip_top {k x : Nat} (h : x < 2 ^ k) : x ^^^ 2 ^ k = x + 2 ^ k := by
  have h1 : x ^^^ 2 ^ k = x ||| 1 * 2 ^ k := by
    apply Nat.eq_of_testBit_eq
    intro i
    rw [Nat.one_mul, Nat.testBit_xor, Nat.testBit_or, Nat.testBit_two_pow]
    by_cases hi : k = i
    · subst hi; rw [Nat.testBit_lt_two_pow h]; simp
    · simp [hi]
  rw [h1, or_shift h, Nat.mul_one]
theorem flip_off {k x : Nat} (h : x < 2 ^ k) : (x + 2 ^ k) ^^^ 2 ^ k = x := by rw [← flip_top h, Nat.xor_assoc, Nat.xor_self, Nat.xor_zero]
theorem flip_add {k c x : Nat} (h : x < 2 ^ k) (hc : c < k) : (x + 2 ^ k) ^^^ 2 ^ c = (x ^^^ 2 ^ c) + 2 ^ k := by
  have h2 : x ^^^ 2 ^ c < 2 ^ k := Nat.xor_lt_two_pow h (Nat.pow_lt_pow_right (by decide) hc)
  rw [← flip_top h, ← flip_top h2, Nat.xor_assoc, Nat.xor_comm (2 ^ k), Nat.xor_assoc]
theorem cnt_flip : ∀ (k : Nat) {c : Nat} (p : Nat → Bool), c < k → cnt k (fun x => p (x ^^^ 2 ^ c)) = cnt k p
  | 0, _, _, h => absurd h (by omega)
  | k + 1, c, p, h => by
    simp only [cnt]
    by_cases hc : c = k
    · subst hc
      rw [cnt_congr c (q := fun x => p (x + 2 ^ c)) (fun x hx => by rw [flip_top hx]), cnt_congr c (p := fun x => p ((x + 2 ^ c) ^^^ 2 ^ c)) (q := p) (fun x hx => by rw [flip_off hx])]
      omega
    · rw [cnt_flip k p (by omega), cnt_congr k (p := fun x => p ((x + 2 ^ k) ^^^ 2 ^ c)) (q := fun x => (fun y => p (y + 2 ^ k)) (x ^^^ 2 ^ c)) (fun x hx => by rw [flip_add hx (by omega)]),
        cnt_flip k (fun y => p (y + 2 ^ k)) (by omega)]
def solB (w : Nat) (es : List Nat) (x : Nat) : Bool := es.all fun e => decide (par (e &&& (x ||| 2 ^ w)) = 0)
theorem solB_iff {w : Nat} {es : List Nat} {x : Nat} : solB w es x = true ↔ SolS w es x := by simp [solB, SolS]
/-- Reduced equations halve the states, one after another. -/
theorem cnt_red {w : Nat} (hw : w < 64) : ∀ (r : List Nat), Red w r → cnt w (solB w r) * 2 ^ r.length = 2 ^ w := by
  intro rows
  have key : ∀ (r : List Nat), (∀ e ∈ r, e < 2 ^ (w + 1) ∧ lead w e < w) → (∀ a ∈ r, ∀ o ∈ r, a.testBit (lead w o) = true → lead w a = lead w o) → (r.map (lead w)).Nodup → cnt w (solB w r) * 2 ^ r.length = 2 ^ w := by
    intro r
    induction r with
    | nil =>
      intro _ _ _
      have h0 : cnt w (solB w []) = 2 ^ w := cnt_true w
      rw [h0]
      simp
    | cons e r ih =>
      intro hok hcr hd
      rw [List.map_cons, List.nodup_cons] at hd
      have h1 := ih (fun a ha => hok a (by simp [ha])) (fun a ha o ho => hcr a (by simp [ha]) o (by simp [ho])) hd.2
      have he := hok e (by simp)
      have hbit : e.testBit (lead w e) = true := lead_bit he.2
      have hoth : ∀ a ∈ r, a.testBit (lead w e) = false := by
        intro a ha
        cases hb : a.testBit (lead w e) with
        | false => rfl
        | true => exact absurd (List.mem_map.2 ⟨a, ha, hcr a (by simp [ha]) e (by simp) hb⟩) hd.1
      have fl : ∀ x : Nat, (x ^^^ 2 ^ lead w e) ||| 2 ^ w = (x ||| 2 ^ w) ^^^ 2 ^ lead w e := by
        intro x
        apply Nat.eq_of_testBit_eq
        intro i
        simp only [Nat.testBit_or, Nat.testBit_xor, Nat.testBit_two_pow]
        by_cases h3 : w = i
        · have h4 : ¬ lead w e = i := by omega
          rw [decide_eq_true h3, decide_eq_false h4]; simp
        · rw [decide_eq_false h3]; simp
      have c64 : lead w e < 64 := by omega
      have hr : ∀ x, solB w r (x ^^^ 2 ^ lead w e) = solB w r x := by
        intro x
        rw [Bool.eq_iff_iff, solB_iff, solB_iff, SolS, SolS]
        refine forall_congr' fun a => forall_congr' fun ha => ?_
        rw [fl, par_flip c64, hoth a ha]
        simp
      have hs := cnt_split w (solB w r) (fun x => decide (par (e &&& (x ||| 2 ^ w)) = 0))
      have hA : cnt w (fun x => solB w r x && decide (par (e &&& (x ||| 2 ^ w)) = 0)) = cnt w (solB w (e :: r)) := cnt_congr w fun x _ => by
        show _ = (decide (par (e &&& (x ||| 2 ^ w)) = 0) && solB w r x)
        exact Bool.and_comm _ _
      have hB : cnt w (fun x => solB w r x && !decide (par (e &&& (x ||| 2 ^ w)) = 0)) = cnt w (solB w (e :: r)) := by
        rw [← hA, ← cnt_flip w (fun x => solB w r x && decide (par (e &&& (x ||| 2 ^ w)) = 0)) he.2]
        refine cnt_congr w fun x _ => ?_
        rw [hr, fl, par_flip c64, hbit]
        have := par_lt (e &&& (x ||| 2 ^ w))
        generalize par (e &&& (x ||| 2 ^ w)) = q at *
        congr 1
        rcases (show q = 0 ∨ q = 1 by omega) with rfl | rfl <;> rfl
      rw [hA, hB] at hs
      rw [List.length_cons, Nat.pow_succ, ← h1, hs, ← Nat.two_mul]
      rw [Nat.mul_comm (2 ^ r.length) 2, ← Nat.mul_assoc, Nat.mul_comm (cnt w _) 2]
  intro h
  exact key rows h.ok h.cross h.dis
/-- How many below a bound. -/
def C (p : Nat → Bool) : Nat → Nat
  | 0 => 0
  | n + 1 => C p n + if p n = true then 1 else 0
theorem C_le (p : Nat → Bool) : ∀ n, C p n ≤ n
  | 0 => Nat.le_refl _
  | n + 1 => by have := C_le p n; simp only [C]; split <;> omega
theorem C_add (p : Nat → Bool) (a : Nat) : ∀ b, C p (a + b) = C p a + C (fun x => p (a + x)) b
  | 0 => rfl
  | b + 1 => by
    rw [← Nat.add_assoc]
    simp only [C]
    rw [C_add p a b]
    omega
theorem C_cnt : ∀ (k : Nat) (p : Nat → Bool), C p (2 ^ k) = cnt k p
  | 0, p => by simp [C, cnt]
  | k + 1, p => by
    rw [Nat.pow_succ, Nat.mul_two, C_add]
    simp only [cnt]
    rw [C_cnt k p, C_cnt k, cnt_congr k (p := fun x => p (2 ^ k + x)) (q := fun x => p (x + 2 ^ k)) fun x _ => by rw [Nat.add_comm (2 ^ k) x]]
theorem C_zero {p : Nat → Bool} : ∀ {n : Nat}, C p n = 0 ↔ ∀ x, x < n → p x = false
  | 0 => ⟨fun _ x h => absurd h (by omega), fun _ => rfl⟩
  | n + 1 => by
    simp only [C]
    constructor
    · intro h x hx
      have h0 : C p n = 0 := by omega
      by_cases hn : x < n
      · exact C_zero.1 h0 x hn
      · obtain rfl : x = n := by omega
        cases hp : p x with
        | false => rfl
        | true => rw [hp] at h; simp at h
    · intro h
      rw [C_zero.2 fun x hx => h x (by omega), h n (by omega)]
      rfl
theorem C_pos {p : Nat → Bool} {n x : Nat} (hx : x < n) (hp : p x = true) : 0 < C p n := by
  refine Nat.pos_of_ne_zero fun h => ?_
  rw [C_zero.1 h x hx] at hp
  cases hp
theorem C_split (p q : Nat → Bool) : ∀ n, C p n = C (fun x => p x && q x) n + C (fun x => p x && !q x) n
  | 0 => rfl
  | n + 1 => by
    simp only [C]
    rw [C_split p q n]
    by_cases h1 : p n = true <;> by_cases h2 : q n = true <;> simp [h1, h2] <;> omega
/-- The first one, as the loop finds it. -/
def first (p : Nat → Bool) : Nat → Int
  | 0 => -1
  | n + 1 => if p n = true ∧ first p n < 0 then (n : Int) else first p n
theorem first_none {p : Nat → Bool} : ∀ {n : Nat}, (∀ x, x < n → p x = false) → first p n = -1
  | 0, _ => rfl
  | n + 1, h => by
    simp only [first]
    rw [if_neg (by rw [h n (by omega)]; simp), first_none fun x hx => h x (by omega)]
theorem first_some {p : Nat → Bool} {m : Nat} (hp : p m = true) (hm : ∀ x, p x = true → m ≤ x) : ∀ {n : Nat}, m < n → first p n = m
  | 0, h => absurd h (by omega)
  | n + 1, h => by
    simp only [first]
    by_cases hn : m < n
    · rw [first_some hp hm hn, if_neg (by omega)]
    · obtain rfl : m = n := by omega
      rw [first_none (n := m) fun x hx => ?_, if_pos ⟨hp, by omega⟩]
      cases h2 : p x with
      | false => rfl
      | true => have := hm x h2; omega
end Go.Wd
