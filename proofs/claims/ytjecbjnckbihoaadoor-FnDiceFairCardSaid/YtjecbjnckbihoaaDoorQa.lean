/- Numbers of any size, fractions, chances: contracts. Nothing is claimed here; no condition. -/
import Derived.Test.YtjecbjnckbihoaaDoorAbsZ
import Derived.Test.YtjecbjnckbihoaaDoorAbsX
import Derived.Test.YtjecbjnckbihoaaDoorAbsT
import Derived.Test.YtjecbjnckbihoaaDoorHd
import Derived.Test.YtjecbjnckbihoaaDoorWy
set_option linter.unusedSimpArgs false
set_option linter.unusedVariables false
namespace Go.Proofs.YtjecbjnckbihoaaDoor
open Go Go.Abs
end Go.Proofs.YtjecbjnckbihoaaDoor
namespace Go.Nm

/-- The value of digits, the least one first. -/
def val (B : Nat) : List Nat → Nat
  | [] => 0
  | d :: r => d + B * val B r
def Dg (B : Nat) (l : List Nat) : Prop := ∀ d ∈ l, d < B
def trimL : List Nat → List Nat
  | [] => []
  | d :: r => match trimL r with
    | [] => if d = 0 then [] else [d]
    | e :: s => d :: e :: s
/-- No zero at the end. -/
def can : List Nat → Prop
  | [] => True
  | [d] => d ≠ 0
  | _ :: e :: r => can (e :: r)
def dgF (B : Nat) : Nat → Nat → List Nat
  | 0, _ => []
  | f + 1, n => if n = 0 then [] else n % B :: dgF B f (n / B)
/-- The canonical digits of a number. -/
def dg (B n : Nat) : List Nat := dgF B n n

theorem dgF_eq {B : Nat} (hB : 2 ≤ B) : ∀ (n f g : Nat), n ≤ f → n ≤ g → dgF B f n = dgF B g n := by
  intro n
  induction n using Nat.strongRecOn with
  | _ n ih =>
    intro f g hf hg
    by_cases h0 : n = 0
    · subst h0
      cases f <;> cases g <;> simp [dgF]
    · obtain ⟨f, rfl⟩ : ∃ k, f = k + 1 := ⟨f - 1, by omega⟩
      obtain ⟨g, rfl⟩ : ∃ k, g = k + 1 := ⟨g - 1, by omega⟩
      have h1 : n / B < n := Nat.div_lt_self (by omega) hB
      simp only [dgF, if_neg h0]
      rw [ih (n / B) h1 f g (by omega) (by omega)]
theorem dg_zero (B : Nat) : dg B 0 = [] := rfl
theorem dg_pos {B n : Nat} (hB : 2 ≤ B) (hn : 0 < n) : dg B n = n % B :: dg B (n / B) := by
  obtain ⟨m, rfl⟩ : ∃ k, n = k + 1 := ⟨n - 1, by omega⟩
  have h1 : (m + 1) / B < m + 1 := Nat.div_lt_self (by omega) hB
  unfold dg
  rw [dgF, if_neg (by omega), dgF_eq hB _ m ((m + 1) / B) (by omega) (Nat.le_refl _)]
theorem val_dg {B : Nat} (hB : 2 ≤ B) (n : Nat) : val B (dg B n) = n := by
  induction n using Nat.strongRecOn with
  | _ n ih =>
    by_cases h0 : n = 0
    · subst h0; rfl
    · have h1 : n / B < n := Nat.div_lt_self (by omega) hB
      rw [dg_pos hB (by omega), val, ih _ h1]
      exact Nat.mod_add_div n B
theorem dg_Dg {B : Nat} (hB : 2 ≤ B) (n : Nat) : Dg B (dg B n) := by
  induction n using Nat.strongRecOn with
  | _ n ih =>
    by_cases h0 : n = 0
    · subst h0; intro d hd; simp [dg_zero] at hd
    · have h1 : n / B < n := Nat.div_lt_self (by omega) hB
      rw [dg_pos hB (by omega)]
      intro d hd
      rcases List.mem_cons.1 hd with rfl | hd
      · exact Nat.mod_lt _ (by omega)
      · exact ih _ h1 d hd
theorem can_tail {d : Nat} {r : List Nat} (h : can (d :: r)) : can r := by
  cases r with
  | nil => trivial
  | cons e s => exact h
theorem can_pos {B : Nat} (hB : 0 < B) : ∀ {l : List Nat}, can l → l ≠ [] → 0 < val B l
  | [], _, h => absurd rfl h
  | [d], h, _ => by simp only [can] at h; simp only [val]; omega
  | d :: e :: r, h, _ => by
    have := can_pos hB (l := e :: r) h (by simp)
    have := Nat.mul_pos hB this
    rw [val]; omega
theorem dg_uniq {B : Nat} (hB : 2 ≤ B) : ∀ {l : List Nat}, Dg B l → can l → l = dg B (val B l)
  | [], _, _ => rfl
  | d :: r, hd, hc => by
    have hp := can_pos (B := B) (by omega) hc (by simp)
    have h1 : d < B := hd d (by simp)
    have ih := dg_uniq hB (l := r) (fun x hx => hd x (by simp [hx])) (can_tail hc)
    rw [dg_pos hB hp, val, Nat.add_mul_mod_self_left, Nat.mod_eq_of_lt h1, Nat.add_mul_div_left _ _ (by omega), Nat.div_eq_of_lt h1, Nat.zero_add, ← ih]
theorem trimL_can : ∀ l : List Nat, can (trimL l)
  | [] => trivial
  | d :: r => by
    have ih := trimL_can r
    simp only [trimL]
    split
    · split
      · trivial
      · rename_i h; exact h
    · rename_i e s he; rw [he] at ih; exact ih
theorem trimL_val (B : Nat) : ∀ l : List Nat, val B (trimL l) = val B l
  | [] => rfl
  | d :: r => by
    have ih := trimL_val B r
    simp only [trimL]
    split
    · rename_i he
      rw [he] at ih
      simp only [val] at ih
      split
      · rename_i h0; simp only [val]; rw [← ih, h0]; simp
      · simp only [val]; rw [← ih]
    · rename_i e s he; rw [he] at ih; rw [val, ih]; rfl
theorem trimL_sub : ∀ (l : List Nat) (x : Nat), x ∈ trimL l → x ∈ l
  | [], _, h => by simp [trimL] at h
  | d :: r, x, h => by
    simp only [trimL] at h
    split at h
    · split at h
      · simp at h
      · simp at h; simp [h]
    · rename_i e s he
      rcases List.mem_cons.1 h with rfl | h
      · simp
      · exact List.mem_cons_of_mem _ (trimL_sub r x (by rw [he]; exact h))
/-- Digits without the zeros at the end are the canonical ones. -/
theorem trim_dg {B : Nat} (hB : 2 ≤ B) {l : List Nat} (h : Dg B l) : trimL l = dg B (val B l) := by
  rw [dg_uniq hB (l := trimL l) (fun d hd => h d (trimL_sub l d hd)) (trimL_can l), trimL_val]
theorem trimL_take : ∀ l : List Nat, trimL l = l.take (trimL l).length ∧ (trimL l).length ≤ l.length ∧ ∀ d ∈ l.drop (trimL l).length, d = 0
  | [] => ⟨rfl, Nat.le_refl _, by simp [trimL]⟩
  | d :: r => by
    obtain ⟨h1, h2, h3⟩ := trimL_take r
    simp only [trimL]
    split
    · rename_i he
      rw [he] at h3
      split
      · rename_i h0
        refine ⟨rfl, Nat.zero_le _, fun x hx => ?_⟩
        rcases List.mem_cons.1 hx with rfl | hx
        · exact h0
        · exact h3 x (by simpa using hx)
      · exact ⟨rfl, by simp, fun x hx => h3 x (by simpa using hx)⟩
    · rename_i e s he
      rw [he] at h1 h2 h3
      refine ⟨?_, by simp at h2 ⊢; omega, fun x hx => h3 x (by simpa using hx)⟩
      simp only [List.length_cons, List.take_succ_cons] at h1 ⊢
      rw [← h1]
/-- A zero at the end is dropped; what ends with none is kept. -/
theorem trimL_zero (l : List Nat) : trimL (l ++ [0]) = trimL l := by
  induction l with
  | nil => rfl
  | cons d r ih => simp only [List.cons_append, trimL, ih]
theorem trimL_last (l : List Nat) {d : Nat} (h : d ≠ 0) : trimL (l ++ [d]) = l ++ [d] := by
  induction l with
  | nil => simp [trimL, h]
  | cons e r ih =>
    simp only [List.cons_append, trimL, ih]
    cases hr : r ++ [d] with
    | nil => simp at hr
    | cons a b => rfl
theorem val_lt {B : Nat} (hB : 0 < B) : ∀ {l : List Nat}, Dg B l → val B l < B ^ l.length
  | [], _ => by simp [val]
  | d :: r, h => by
    have ih := val_lt hB (l := r) fun x hx => h x (by simp [hx])
    have h1 : d < B := h d (by simp)
    rw [val, List.length_cons, Nat.pow_succ]
    have : B * (val B r + 1) ≤ B * B ^ r.length := Nat.mul_le_mul_left _ ih
    rw [Nat.mul_comm (B ^ r.length)]
    rw [Nat.mul_add] at this; omega
theorem val_app (B : Nat) : ∀ (a b : List Nat), val B (a ++ b) = val B a + B ^ a.length * val B b
  | [], b => by simp [val]
  | d :: r, b => by
    rw [List.cons_append, val, val_app B r b, val, List.length_cons, Nat.pow_succ, Nat.mul_add, Nat.add_assoc, Nat.mul_comm (B ^ r.length) B, Nat.mul_assoc]
theorem val_zeros (B n : Nat) : val B (List.replicate n 0) = 0 := by
  induction n with
  | zero => rfl
  | succ n ih => rw [List.replicate_succ, val, ih]; simp
/-- The digit at a place; 0 behind the end. -/
def at1 (l : List Nat) (i : Nat) : Nat := l.getD i 0
theorem at1_of {l : List Nat} {i x : Nat} (h : l[i]? = some x) : at1 l i = x := by simp [at1, List.getD_eq_getElem?_getD, h]
theorem at1_some {l : List Nat} {i : Nat} (h : i < l.length) : l[i]? = some (at1 l i) := by simp [at1, List.getD_eq_getElem?_getD, h]
theorem at1_out {l : List Nat} {i : Nat} (h : l.length ≤ i) : at1 l i = 0 := by simp [at1, List.getD_eq_getElem?_getD, h]
theorem at1_lt {B : Nat} (hB : 0 < B) {l : List Nat} (h : Dg B l) (i : Nat) : at1 l i < B := by
  by_cases hi : i < l.length
  · exact h _ (List.mem_of_getElem? (at1_some hi))
  · rw [at1_out (by omega)]; exact hB
theorem at1_set (l : List Nat) (a b x : Nat) (h : a < l.length) : at1 (l.set a x) b = if b = a then x else at1 l b := by
  simp only [at1, List.getD_eq_getElem?_getD, List.getElem?_set]
  by_cases h1 : b = a
  · subst h1; simp [h]
  · have : ¬ a = b := fun e => h1 e.symm
    simp [h1, this]
theorem take_succ1 {l : List Nat} {i : Nat} (h : i < l.length) : l.take (i + 1) = l.take i ++ [at1 l i] := by
  rw [List.take_add_one, at1_some h]; rfl
theorem drop_at1 {l : List Nat} {i : Nat} (h : i < l.length) : l.drop i = at1 l i :: l.drop (i + 1) := by
  rw [List.drop_eq_getElem_cons h]
  have := at1_some h
  rw [List.getElem?_eq_getElem h] at this
  rw [Option.some.inj this]
theorem val_take_succ (B : Nat) (l : List Nat) (i : Nat) : val B (l.take (i + 1)) = val B (l.take i) + B ^ i * at1 l i := by
  by_cases h : i < l.length
  · rw [take_succ1 h, val_app]
    simp [val, Nat.min_eq_left (Nat.le_of_lt h)]
  · rw [List.take_of_length_le (by omega), List.take_of_length_le (by omega), at1_out (by omega)]; simp
theorem val_set (B : Nat) : ∀ (l : List Nat) (i x : Nat), i < l.length → val B (l.set i x) + B ^ i * at1 l i = val B l + B ^ i * x
  | [], _, _, h => by simp at h
  | d :: r, 0, x, _ => by simp [val, at1]; omega
  | d :: r, i + 1, x, h => by
    have ih := val_set B r i x (by simpa using h)
    have e1 : at1 (d :: r) (i + 1) = at1 r i := by simp [at1]
    rw [List.set_cons_succ, val, val, e1, Nat.pow_succ, Nat.mul_comm (B ^ i) B, Nat.mul_assoc, Nat.mul_assoc, Nat.add_assoc, ← Nat.mul_add, ih, Nat.mul_add, Nat.add_assoc]
theorem Dg_set {B : Nat} {l : List Nat} (h : Dg B l) {i x : Nat} (hx : x < B) : Dg B (l.set i x) := fun d hd => by
  rcases List.mem_or_eq_of_mem_set hd with h1 | h1
  · exact h d h1
  · rw [h1]; exact hx
theorem Dg_zeros {B : Nat} (hB : 0 < B) (n : Nat) : Dg B (List.replicate n 0) := fun d hd => by rw [List.eq_of_mem_replicate hd]; exact hB
theorem Dg_app {B : Nat} {a b : List Nat} (ha : Dg B a) (hb : Dg B b) : Dg B (a ++ b) := fun d hd => (List.mem_append.1 hd).elim (ha d) (hb d)
theorem Dg_take {B : Nat} {l : List Nat} (h : Dg B l) (n : Nat) : Dg B (l.take n) := fun d hd => h d (List.mem_of_mem_take hd)
theorem Dg_drop {B : Nat} {l : List Nat} (h : Dg B l) (n : Nat) : Dg B (l.drop n) := fun d hd => h d (List.mem_of_mem_drop hd)
/-! Lengths and comparison -/
theorem dg_len_le {B : Nat} (hB : 2 ≤ B) : ∀ {k n : Nat}, n < B ^ k → (dg B n).length ≤ k
  | 0, n, h => by
    have : n = 0 := by simpa using h
    subst this; simp [dg_zero]
  | k + 1, n, h => by
    by_cases h0 : n = 0
    · subst h0; simp [dg_zero]
    · rw [dg_pos hB (by omega), List.length_cons]
      have := dg_len_le hB (k := k) (n := n / B) (by
        rw [Nat.div_lt_iff_lt_mul (by omega), ← Nat.pow_succ]; exact h)
      omega
theorem lt_dg_len {B : Nat} (hB : 2 ≤ B) (n : Nat) : n < B ^ (dg B n).length := by
  have := val_lt (B := B) (by omega) (dg_Dg hB n)
  rwa [val_dg hB] at this
theorem dg_len_lt {B : Nat} (hB : 2 ≤ B) {a b : Nat} (h : (dg B a).length < (dg B b).length) : a < b := by
  refine Nat.lt_of_not_le fun hle => ?_
  have h1 := lt_dg_len hB a
  have := dg_len_le hB (k := (dg B a).length) (n := b) (by omega)
  omega
theorem dg_len_pos {B : Nat} (hB : 2 ≤ B) {n : Nat} : 0 < (dg B n).length ↔ 0 < n := by
  constructor
  · intro h
    refine Nat.pos_of_ne_zero fun h0 => ?_
    subst h0; simp [dg_zero] at h
  · intro h; rw [dg_pos hB h]; simp
theorem dg_len_zero {B : Nat} (hB : 2 ≤ B) {n : Nat} : (dg B n).length = 0 ↔ n = 0 := by
  have := dg_len_pos hB (n := n); omega
/-- The place at which digits of one length differ first, from the top. -/
theorem cmp_top {B : Nat} (hB : 0 < B) : ∀ {a b : List Nat}, a.length = b.length → Dg B a → Dg B b → ∀ i, i < a.length → (∀ j, i < j → j < a.length → at1 a j = at1 b j) → at1 a i < at1 b i → val B a < val B b
  | [], _, _, _, _, i, h, _, _ => by simp at h
  | _ :: _, [], h, _, _, _, _, _, _ => by simp at h
  | x :: a, y :: b, hl, ha, hb, 0, _, he, hlt => by
    have : a = b := by
      apply List.ext_getElem (by simpa using hl)
      intro i h1 h2
      have := he (i + 1) (by omega) (by simpa using h1)
      simpa [at1, h1, h2] using this
    subst this
    simp only [at1, List.getD_cons_zero] at hlt
    rw [val, val]; omega
  | x :: a, y :: b, hl, ha, hb, i + 1, hi, he, hlt => by
    have ih := cmp_top hB (a := a) (b := b) (by simpa using hl) (fun d hd => ha d (by simp [hd])) (fun d hd => hb d (by simp [hd])) i (by simpa using hi) (fun j h1 h2 => by
      have := he (j + 1) (by omega) (by simpa using h2)
      simpa [at1] using this) (by simpa [at1] using hlt)
    have hx : x < B := ha x (by simp)
    rw [val, val]
    have : B * (val B a + 1) ≤ B * val B b := Nat.mul_le_mul_left _ ih
    rw [Nat.mul_add] at this; omega
/-! Sums with a carry -/
def addG (B : Nat) (a b : List Nat) : Nat → Nat → Nat → List Nat
  | 0, _, _ => []
  | m + 1, i, c => (c + at1 a i + at1 b i) % B :: addG B a b m (i + 1) ((c + at1 a i + at1 b i) / B)
def carG (B : Nat) (a b : List Nat) : Nat → Nat → Nat → Nat
  | 0, _, c => c
  | m + 1, i, c => carG B a b m (i + 1) ((c + at1 a i + at1 b i) / B)
theorem addG_length (B : Nat) (a b : List Nat) : ∀ m i c, (addG B a b m i c).length = m
  | 0, _, _ => rfl
  | m + 1, i, c => by simp [addG, addG_length B a b m]
theorem addG_Dg {B : Nat} (hB : 0 < B) (a b : List Nat) : ∀ m i c, Dg B (addG B a b m i c)
  | 0, _, _, d, h => by simp [addG] at h
  | m + 1, i, c, d, h => by
    rcases List.mem_cons.1 h with rfl | h
    · exact Nat.mod_lt _ hB
    · exact addG_Dg hB a b m _ _ d h
theorem addG_val {B : Nat} (a b : List Nat) : ∀ m i c, val B (addG B a b m i c) + B ^ m * carG B a b m i c = c + val B ((a.drop i).take m) + val B ((b.drop i).take m)
  | 0, i, c => by simp [addG, carG, val]
  | m + 1, i, c => by
    have ih := addG_val (B := B) a b m (i + 1) ((c + at1 a i + at1 b i) / B)
    have hd : ∀ l : List Nat, val B ((l.drop i).take (m + 1)) = at1 l i + B * val B ((l.drop (i + 1)).take m) := fun l => by
      by_cases h : i < l.length
      · rw [drop_at1 h, List.take_succ_cons, val]
      · rw [List.drop_eq_nil_of_le (by omega), List.drop_eq_nil_of_le (by omega), at1_out (by omega)]; simp [val]
    rw [addG, carG, val, hd a, hd b, Nat.pow_succ, Nat.mul_comm (B ^ m) B, Nat.mul_assoc, Nat.add_assoc, ← Nat.mul_add, ih]
    have := Nat.mod_add_div (c + at1 a i + at1 b i) B
    simp only [Nat.mul_add]
    omega
theorem carG_le {B : Nat} (hB : 2 ≤ B) {a b : List Nat} (ha : Dg B a) (hb : Dg B b) : ∀ m i c, c ≤ 1 → carG B a b m i c ≤ 1
  | 0, _, _, h => h
  | m + 1, i, c, h => by
    rw [carG]
    refine carG_le hB ha hb m _ _ ?_
    have h1 := at1_lt (by omega) ha i
    have h2 := at1_lt (by omega) hb i
    have : (c + at1 a i + at1 b i) / B < 2 := by rw [Nat.div_lt_iff_lt_mul (by omega)]; omega
    omega
/-- The sum of two numbers by digits, with room for a carry. -/
theorem add_dg {B : Nat} (hB : 2 ≤ B) {a b : List Nat} (ha : Dg B a) (hb : Dg B b) {n : Nat} (h1 : a.length ≤ n) (h2 : b.length ≤ n) : val B (addG B a b (n + 1) 0 0) = val B a + val B b := by
  have h := addG_val (B := B) a b (n + 1) 0 0
  rw [List.drop_zero, List.drop_zero, List.take_of_length_le (by omega), List.take_of_length_le (by omega), Nat.zero_add] at h
  have hv1 := val_lt (B := B) (by omega) ha
  have hv2 := val_lt (B := B) (by omega) hb
  have p1 : B ^ a.length ≤ B ^ n := Nat.pow_le_pow_right (by omega) h1
  have p2 : B ^ b.length ≤ B ^ n := Nat.pow_le_pow_right (by omega) h2
  have : B ^ n * 2 ≤ B ^ (n + 1) := by rw [Nat.pow_succ]; exact Nat.mul_le_mul_left _ hB
  have h0 : carG B a b (n + 1) 0 0 = 0 := by
    refine Nat.eq_zero_of_not_pos fun hp => ?_
    have : B ^ (n + 1) * 1 ≤ B ^ (n + 1) * carG B a b (n + 1) 0 0 := Nat.mul_le_mul_left _ hp
    omega
  rw [h0] at h
  omega
/-! Differences with a borrow -/
def subG (B : Nat) (a b : List Nat) : Nat → Nat → Nat → List Nat
  | 0, _, _ => []
  | m + 1, i, c => if at1 a i < c + at1 b i then (at1 a i + B - c - at1 b i) :: subG B a b m (i + 1) 1 else (at1 a i - c - at1 b i) :: subG B a b m (i + 1) 0
def borG (a b : List Nat) : Nat → Nat → Nat → Nat
  | 0, _, c => c
  | m + 1, i, c => if at1 a i < c + at1 b i then borG a b m (i + 1) 1 else borG a b m (i + 1) 0
theorem subG_length (B : Nat) (a b : List Nat) : ∀ m i c, (subG B a b m i c).length = m
  | 0, _, _ => rfl
  | m + 1, i, c => by rw [subG]; split <;> simp [subG_length B a b m]
theorem subG_Dg {B : Nat} (hB : 2 ≤ B) {a b : List Nat} (ha : Dg B a) (hb : Dg B b) : ∀ m i c, c ≤ 1 → Dg B (subG B a b m i c)
  | 0, _, _, _, d, h => by simp [subG] at h
  | m + 1, i, c, hc, d, h => by
    have h1 := at1_lt (by omega) ha i
    have h2 := at1_lt (by omega) hb i
    rw [subG] at h
    split at h
    · rcases List.mem_cons.1 h with rfl | h
      · omega
      · exact subG_Dg hB ha hb m _ _ (by omega) d h
    · rcases List.mem_cons.1 h with rfl | h
      · omega
      · exact subG_Dg hB ha hb m _ _ (by omega) d h
theorem subG_val {B : Nat} (hB : 2 ≤ B) {a b : List Nat} (ha : Dg B a) (hb : Dg B b) : ∀ m i c, c ≤ 1 → val B (subG B a b m i c) + c + val B ((b.drop i).take m) = val B ((a.drop i).take m) + B ^ m * borG a b m i c ∧ borG a b m i c ≤ 1
  | 0, i, c, hc => by simp [subG, borG, val, hc]
  | m + 1, i, c, hc => by
    have hd : ∀ l : List Nat, val B ((l.drop i).take (m + 1)) = at1 l i + B * val B ((l.drop (i + 1)).take m) := fun l => by
      by_cases h : i < l.length
      · rw [drop_at1 h, List.take_succ_cons, val]
      · rw [List.drop_eq_nil_of_le (by omega), List.drop_eq_nil_of_le (by omega), at1_out (by omega)]; simp [val]
    have h1 := at1_lt (by omega) ha i
    have h2 := at1_lt (by omega) hb i
    rw [subG, borG, hd a, hd b, Nat.pow_succ, Nat.mul_comm (B ^ m) B, Nat.mul_assoc]
    split
    · obtain ⟨i1, i2⟩ := subG_val hB ha hb m (i + 1) 1 (Nat.le_refl _)
      refine ⟨?_, i2⟩
      rw [val]
      have e := congrArg (B * ·) i1
      simp only [Nat.mul_add, Nat.mul_one] at e
      omega
    · obtain ⟨i1, i2⟩ := subG_val hB ha hb m (i + 1) 0 (Nat.zero_le _)
      refine ⟨?_, i2⟩
      rw [val]
      have e := congrArg (B * ·) i1
      simp only [Nat.mul_add, Nat.mul_zero, Nat.add_zero] at e
      omega
theorem sub_dg {B : Nat} (hB : 2 ≤ B) {a b : List Nat} (ha : Dg B a) (hb : Dg B b) (hl : b.length ≤ a.length) (h : val B b ≤ val B a) : val B (subG B a b a.length 0 0) = val B a - val B b := by
  obtain ⟨h1, h2⟩ := subG_val hB ha hb a.length 0 0 (Nat.zero_le _)
  rw [List.drop_zero, List.drop_zero, List.take_of_length_le (Nat.le_refl _), List.take_of_length_le hl, Nat.add_zero] at h1
  have h3 := val_lt (B := B) (by omega) (subG_Dg hB ha hb a.length 0 0 (Nat.zero_le _))
  rw [subG_length] at h3
  have h0 : borG a b a.length 0 0 = 0 := by
    refine Nat.eq_zero_of_not_pos fun hp => ?_
    have : B ^ a.length * 1 ≤ B ^ a.length * borG a b a.length 0 0 := Nat.mul_le_mul_left _ hp
    omega
  rw [h0] at h1
  omega
end Go.Nm

namespace Go.Nm
/-! Products -/
def mulI (B x : Nat) (b : List Nat) (i : Nat) : Nat → Nat → Nat → List Nat → List Nat × Nat
  | 0, _, c, out => (out, c)
  | m + 1, k, c, out => mulI B x b i m (k + 1) ((c + at1 out (i + k) + x * at1 b k) / B) (out.set (i + k) ((c + at1 out (i + k) + x * at1 b k) % B))
theorem mul_step {B c o x y : Nat} (hB : 0 < B) (hc : c < B) (ho : o < B) (hx : x < B) (hy : y < B) : (c + o + x * y) / B < B := by
  rw [Nat.div_lt_iff_lt_mul hB]
  obtain ⟨D, rfl⟩ : ∃ D, B = D + 1 := ⟨B - 1, by omega⟩
  have h1 : x * y ≤ D * D := Nat.mul_le_mul (by omega) (by omega)
  have h2 : (D + 1) * (D + 1) = D * D + 2 * D + 1 := by rw [Nat.add_mul, Nat.mul_add]; omega
  omega
theorem mulI_spec {B : Nat} (hB : 2 ≤ B) {x : Nat} (hx : x < B) {b : List Nat} (hb : Dg B b) (i : Nat) : ∀ (m k c : Nat) (out : List Nat), c < B → Dg B out → i + k + m ≤ out.length →
    (mulI B x b i m k c out).1.length = out.length ∧ Dg B (mulI B x b i m k c out).1 ∧ (mulI B x b i m k c out).2 < B ∧ (∀ j, i + k + m ≤ j → at1 (mulI B x b i m k c out).1 j = at1 out j) ∧
    val B (mulI B x b i m k c out).1 + B ^ (i + k + m) * (mulI B x b i m k c out).2 = val B out + B ^ (i + k) * (c + x * val B ((b.drop k).take m))
  | 0, k, c, out, hc, ho, _ => by
    refine ⟨rfl, ho, hc, fun _ _ => rfl, ?_⟩
    simp [mulI, val]
  | m + 1, k, c, out, hc, ho, hl => by
    have hp : 0 < B := by omega
    have h1 := at1_lt hp ho (i + k)
    have h2 := at1_lt hp hb k
    rw [mulI]
    obtain ⟨a1, a2, a3, a4, a5⟩ := mulI_spec hB hx hb i m (k + 1) ((c + at1 out (i + k) + x * at1 b k) / B) (out.set (i + k) ((c + at1 out (i + k) + x * at1 b k) % B)) (mul_step hp hc h1 hx h2) (Dg_set ho (Nat.mod_lt _ hp)) (by simp; omega)
    have hd : val B ((b.drop k).take (m + 1)) = at1 b k + B * val B ((b.drop (k + 1)).take m) := by
      by_cases h : k < b.length
      · rw [drop_at1 h, List.take_succ_cons, val]
      · rw [List.drop_eq_nil_of_le (by omega), List.drop_eq_nil_of_le (by omega), at1_out (by omega)]; simp [val]
    refine ⟨by rw [a1]; simp, a2, a3, fun j hj => ?_, ?_⟩
    · rw [a4 j (by omega), at1_set _ _ _ _ (by omega), if_neg (by omega)]
    · rw [show i + k + (m + 1) = i + (k + 1) + m by omega, a5, hd]
      have hs := val_set B out (i + k) ((c + at1 out (i + k) + x * at1 b k) % B) (by omega)
      have hm := Nat.mod_add_div (c + at1 out (i + k) + x * at1 b k) B
      generalize (c + at1 out (i + k) + x * at1 b k) / B = q at *
      generalize hr : (c + at1 out (i + k) + x * at1 b k) % B = r at *
      generalize val B ((b.drop (k + 1)).take m) = V at *
      generalize val B (out.set (i + k) r) = W at *
      generalize at1 out (i + k) = o at *
      generalize at1 b k = y at *
      rw [show i + (k + 1) = (i + k) + 1 by omega, Nat.pow_succ]
      generalize B ^ (i + k) = P at *
      -- W + P o = val out + P r ; r + B q = c + o + x y
      have e1 : P * (r + B * q) = P * (c + o + x * y) := by rw [hm]
      simp only [Nat.mul_add] at e1 ⊢
      have e2 : P * B * q = P * (B * q) := Nat.mul_assoc _ _ _
      have e3 : P * B * (x * V) = P * (x * (B * V)) := by rw [Nat.mul_assoc, Nat.mul_left_comm B x V]
      omega
def mulO (B : Nat) (a b : List Nat) : Nat → Nat → List Nat → List Nat
  | 0, _, out => out
  | m + 1, i, out => mulO B a b m (i + 1) ((mulI B (at1 a i) b i b.length 0 0 out).1.set (i + b.length) (mulI B (at1 a i) b i b.length 0 0 out).2)
theorem mulO_step {B : Nat} (hB : 2 ≤ B) {a b : List Nat} (ha : Dg B a) (hb : Dg B b) (i : Nat) (out : List Nat) (ho : Dg B out) (hl : i + 1 + b.length ≤ out.length) (hz : ∀ j, i + b.length ≤ j → at1 out j = 0) :
    let out' := (mulI B (at1 a i) b i b.length 0 0 out).1.set (i + b.length) (mulI B (at1 a i) b i b.length 0 0 out).2
    out'.length = out.length ∧ Dg B out' ∧ (∀ j, i + 1 + b.length ≤ j → at1 out' j = 0) ∧ val B out' = val B out + B ^ i * (at1 a i * val B b) := by
  obtain ⟨a1, a2, a3, a4, a5⟩ := mulI_spec hB (at1_lt (by omega) ha i) hb i b.length 0 0 out (by omega) ho (by omega)
  simp only [Nat.add_zero, List.drop_zero, Nat.zero_add] at a1 a2 a3 a4 a5
  rw [List.take_of_length_le (Nat.le_refl _)] at a5
  refine ⟨by simp [a1], Dg_set a2 a3, fun j hj => ?_, ?_⟩
  · rw [at1_set _ _ _ _ (by omega), if_neg (by omega), a4 j (by omega), hz j (by omega)]
  · have hs := val_set B (mulI B (at1 a i) b i b.length 0 0 out).1 (i + b.length) (mulI B (at1 a i) b i b.length 0 0 out).2 (by omega)
    rw [a4 _ (Nat.le_refl _), hz _ (Nat.le_refl _)] at hs
    omega
theorem mulO_spec {B : Nat} (hB : 2 ≤ B) {a b : List Nat} (ha : Dg B a) (hb : Dg B b) : ∀ (m i : Nat) (out : List Nat), i + m = a.length → Dg B out → out.length = a.length + b.length → (∀ j, i + b.length ≤ j → at1 out j = 0) →
    (mulO B a b m i out).length = out.length ∧ Dg B (mulO B a b m i out) ∧ val B (mulO B a b m i out) = val B out + B ^ i * (val B (a.drop i) * val B b)
  | 0, i, out, hi, ho, _, _ => by
    refine ⟨rfl, ho, ?_⟩
    rw [List.drop_eq_nil_of_le (by omega)]; simp [mulO, val]
  | m + 1, i, out, hi, ho, hl, hz => by
    obtain ⟨b1, b2, b3, b4⟩ := mulO_step hB ha hb i out ho (by omega) hz
    obtain ⟨c1, c2, c3⟩ := mulO_spec hB ha hb m (i + 1) _ (by omega) b2 (by rw [b1]; exact hl) b3
    rw [mulO]
    refine ⟨by rw [c1, b1], c2, ?_⟩
    rw [c3, b4, drop_at1 (show i < a.length by omega), val, Nat.pow_succ, Nat.add_mul, Nat.mul_add, Nat.add_assoc]
    congr 1
    rw [Nat.mul_assoc, Nat.mul_assoc]
theorem mul_dg {B : Nat} (hB : 2 ≤ B) {a b : List Nat} (ha : Dg B a) (hb : Dg B b) : (mulO B a b a.length 0 (List.replicate (a.length + b.length) 0)).length = a.length + b.length ∧ Dg B (mulO B a b a.length 0 (List.replicate (a.length + b.length) 0)) ∧ val B (mulO B a b a.length 0 (List.replicate (a.length + b.length) 0)) = val B a * val B b := by
  obtain ⟨h1, h2, h3⟩ := mulO_spec hB ha hb a.length 0 (List.replicate (a.length + b.length) 0) (by omega) (Dg_zeros (by omega) _) (by simp) (fun j _ => by
    unfold at1; rw [List.getD_eq_getElem?_getD, List.getElem?_replicate]; split <;> rfl)
  refine ⟨by simpa using h1, h2, ?_⟩
  rw [h3, val_zeros, List.drop_zero]; simp
/-! Shifts -/
def upG (B s : Nat) (a : List Nat) : Nat → Nat → Nat → List Nat
  | 0, _, c => [c]
  | m + 1, i, c => (at1 a i * 2 ^ s + c) % B :: upG B s a m (i + 1) ((at1 a i * 2 ^ s + c) / B)
theorem upG_length (B s : Nat) (a : List Nat) : ∀ m i c, (upG B s a m i c).length = m + 1
  | 0, _, _ => rfl
  | m + 1, i, c => by simp [upG, upG_length B s a m]
theorem up_step {B s x c : Nat} (hB : 0 < B) (hx : x < B) (hc : c < 2 ^ s) : (x * 2 ^ s + c) / B < 2 ^ s := by
  rw [Nat.div_lt_iff_lt_mul hB]
  have : (x + 1) * 2 ^ s ≤ B * 2 ^ s := Nat.mul_le_mul_right _ hx
  rw [Nat.add_mul] at this
  rw [Nat.mul_comm (2 ^ s) B]; omega
theorem upG_spec {B s : Nat} (hB : 2 ≤ B) (hs : 2 ^ s ≤ B) {a : List Nat} (ha : Dg B a) : ∀ m i c, c < 2 ^ s → Dg B (upG B s a m i c) ∧ val B (upG B s a m i c) = c + 2 ^ s * val B ((a.drop i).take m)
  | 0, i, c, hc => ⟨fun d hd => by simp [upG] at hd; omega, by simp [upG, val]⟩
  | m + 1, i, c, hc => by
    have h1 := at1_lt (by omega) ha i
    obtain ⟨i1, i2⟩ := upG_spec hB hs ha m (i + 1) _ (up_step (by omega) h1 hc)
    refine ⟨fun d hd => ?_, ?_⟩
    · rcases List.mem_cons.1 hd with rfl | hd
      · exact Nat.mod_lt _ (by omega)
      · exact i1 d hd
    · have hd : val B ((a.drop i).take (m + 1)) = at1 a i + B * val B ((a.drop (i + 1)).take m) := by
        by_cases h : i < a.length
        · rw [drop_at1 h, List.take_succ_cons, val]
        · rw [List.drop_eq_nil_of_le (by omega), List.drop_eq_nil_of_le (by omega), at1_out (by omega)]; simp [val]
      rw [upG, val, i2, hd]
      have hm := Nat.mod_add_div (at1 a i * 2 ^ s + c) B
      simp only [Nat.mul_add]
      rw [Nat.mul_comm (2 ^ s) (at1 a i), Nat.mul_left_comm (2 ^ s) B]
      omega
theorem up_dg {B s : Nat} (hB : 2 ≤ B) (hs : 2 ^ s ≤ B) {a : List Nat} (ha : Dg B a) : Dg B (upG B s a a.length 0 0) ∧ val B (upG B s a a.length 0 0) = val B a * 2 ^ s := by
  obtain ⟨h1, h2⟩ := upG_spec hB hs ha a.length 0 0 (Nat.two_pow_pos s)
  refine ⟨h1, ?_⟩
  rw [h2, List.drop_zero, List.take_of_length_le (Nat.le_refl _), Nat.zero_add, Nat.mul_comm]
/-- From the top: what is left when a number is divided by a power of 2; m digits are left. -/
def downG (B s : Nat) (a : List Nat) : Nat → Nat → List Nat × Nat
  | 0, c => ([], c)
  | m + 1, c => ((downG B s a m ((c * B + at1 a m) % 2 ^ s)).1 ++ [(c * B + at1 a m) / 2 ^ s % B], (downG B s a m ((c * B + at1 a m) % 2 ^ s)).2)
theorem downG_length (B s : Nat) (a : List Nat) : ∀ m c, (downG B s a m c).1.length = m
  | 0, _ => rfl
  | m + 1, c => by simp [downG, downG_length B s a m]
theorem downG_spec {B s : Nat} (hB : 2 ≤ B) {a : List Nat} (ha : Dg B a) : ∀ m c, m ≤ a.length → c < 2 ^ s → Dg B (downG B s a m c).1 ∧ val B (downG B s a m c).1 * 2 ^ s + (downG B s a m c).2 = c * B ^ m + val B (a.take m) ∧ (downG B s a m c).2 < 2 ^ s
  | 0, c, _, hc => ⟨fun d hd => by simp [downG] at hd, by simp [downG, val], hc⟩
  | m + 1, c, hm, hc => by
    have h1 := at1_lt (by omega) ha m
    have hp : 0 < 2 ^ s := Nat.two_pow_pos s
    obtain ⟨i1, i2, i3⟩ := downG_spec hB ha m ((c * B + at1 a m) % 2 ^ s) (by omega) (Nat.mod_lt _ hp)
    have hq : (c * B + at1 a m) / 2 ^ s < B := by
      rw [Nat.div_lt_iff_lt_mul hp]
      have : (c + 1) * B ≤ 2 ^ s * B := Nat.mul_le_mul_right _ hc
      rw [Nat.add_mul] at this
      rw [Nat.mul_comm B]; omega
    refine ⟨Dg_app i1 fun d hd => ?_, ?_, i3⟩
    · simp at hd; rw [hd]; exact Nat.mod_lt _ (by omega)
    · rw [downG, Nat.mod_eq_of_lt hq, val_app, downG_length, val_take_succ]
      have hmm := Nat.mod_add_div (c * B + at1 a m) (2 ^ s)
      generalize (c * B + at1 a m) / 2 ^ s = q at *
      generalize (c * B + at1 a m) % 2 ^ s = r at *
      simp only [val, Nat.mul_zero, Nat.add_zero]
      rw [Nat.add_mul, Nat.add_right_comm, i2]
      have e := congrArg (B ^ m * ·) hmm
      simp only [Nat.mul_add] at e
      rw [Nat.pow_succ]
      have e1 : B ^ m * q * 2 ^ s = B ^ m * (2 ^ s * q) := by rw [Nat.mul_assoc, Nat.mul_comm q]
      have e2 : c * (B ^ m * B) = B ^ m * (c * B) := by rw [← Nat.mul_assoc, Nat.mul_comm c, Nat.mul_assoc]
      rw [Nat.mul_comm r] 
      omega
theorem down_dg {B s : Nat} (hB : 2 ≤ B) {a : List Nat} (ha : Dg B a) : Dg B (downG B s a a.length 0).1 ∧ val B (downG B s a a.length 0).1 = val B a / 2 ^ s := by
  obtain ⟨h1, h2, h3⟩ := downG_spec (s := s) hB ha a.length 0 (Nat.le_refl _) (Nat.two_pow_pos s)
  refine ⟨h1, ?_⟩
  rw [List.take_of_length_le (Nat.le_refl _), Nat.zero_mul, Nat.zero_add] at h2
  rw [← h2, Nat.mul_comm, Nat.mul_add_div (Nat.two_pow_pos s), Nat.div_eq_of_lt h3, Nat.add_zero]
/-! Division: one digit of the quotient -/
/-- The digits of a window, padded. -/
def pad (n : Nat) (l : List Nat) : List Nat := l ++ List.replicate (n - l.length) 0
theorem val_pad (B n : Nat) (l : List Nat) : val B (pad n l) = val B l := by rw [pad, val_app, val_zeros]; simp
theorem pad_length {n : Nat} {l : List Nat} (h : l.length ≤ n) : (pad n l).length = n := by simp [pad]; omega
theorem Dg_pad {B : Nat} (hB : 0 < B) {n : Nat} {l : List Nat} (h : Dg B l) : Dg B (pad n l) := Dg_app h (Dg_zeros hB _)
theorem val_split (B : Nat) {l : List Nat} {k : Nat} (hk : k ≤ l.length) : val B l = val B (l.take k) + B ^ k * val B (l.drop k) := by
  have h := val_app B (l.take k) (l.drop k)
  rwa [List.take_append_drop, List.length_take, Nat.min_eq_left hk] at h
/-- A number by its digits below a window, in it and above. -/
theorem val_win (B : Nat) (l : List Nat) (k n : Nat) : val B l = val B (l.take k) + B ^ k * (val B ((l.drop k).take n) + B ^ n * val B (l.drop (k + n))) := by
  by_cases hk : k ≤ l.length
  · rw [val_split B hk]
    congr 2
    by_cases hn : n ≤ (l.drop k).length
    · rw [val_split B hn, List.drop_drop]
    · rw [List.take_of_length_le (by omega), List.drop_eq_nil_of_le (show l.length ≤ k + n by simp at hn; omega)]; simp [val]
  · rw [List.take_of_length_le (by omega), List.drop_eq_nil_of_le (show l.length ≤ k by omega), List.drop_eq_nil_of_le (show l.length ≤ k + n by omega)]; simp [val]
/-- The estimate of a digit is not too small. -/
theorem est_ge {B n W by_ top v : Nat} (hB : 0 < B) (hv : 0 < v) (h1 : v * B ^ n ≤ by_) (h2 : W < (top + 1) * B ^ n) (hW : W / by_ < B) : W / by_ ≤ min (top / v) (B - 1) := by
  refine Nat.le_min.2 ⟨?_, by omega⟩
  rw [Nat.le_div_iff_mul_le hv]
  have h3 : W / by_ * by_ ≤ W := Nat.div_mul_le_self _ _
  have h4 : W / by_ * (v * B ^ n) ≤ W / by_ * by_ := Nat.mul_le_mul_left _ h1
  have h5 : W / by_ * v * B ^ n < (top + 1) * B ^ n := by rw [Nat.mul_assoc]; omega
  have h6 := Nat.lt_of_mul_lt_mul_right h5
  omega
/-! Division bit by bit -/
theorem bit_step {A b i q r : Nat} (hb : 0 < b) (h : A / 2 ^ (i + 1) = q * b + r) (hr : r < b) :
    let r2 := 2 * r + A / 2 ^ i % 2
    (b ≤ r2 → A / 2 ^ i = (2 * q + 1) * b + (r2 - b) ∧ r2 - b < b) ∧ (r2 < b → A / 2 ^ i = 2 * q * b + r2) := by
  have e : A / 2 ^ i = 2 * (A / 2 ^ (i + 1)) + A / 2 ^ i % 2 := by
    rw [Nat.pow_succ, ← Nat.div_div_eq_div_mul]
    have := Nat.mod_add_div (A / 2 ^ i) 2
    omega
  have h2 := Nat.mod_lt (A / 2 ^ i) (show 0 < 2 by decide)
  refine ⟨fun hle => ⟨?_, by omega⟩, fun hlt => ?_⟩
  · rw [e, h, Nat.add_mul, Nat.mul_assoc]
    have : (A / 2 ^ i) % 2 = A / 2 ^ i % 2 := rfl
    omega
  · rw [e, h, Nat.mul_assoc]; omega
theorem val_bit {w : Nat} : ∀ (l : List Nat) (i : Nat), Dg (2 ^ w) l → 0 < w → val (2 ^ w) l / 2 ^ i % 2 = at1 l (i / w) / 2 ^ (i % w) % 2
  | [], i, _, _ => by simp [val, at1]
  | d :: r, i, h, hw => by
    by_cases hi : i < w
    · rw [Nat.div_eq_of_lt hi, Nat.mod_eq_of_lt hi, val]
      have e : 2 ^ w = 2 ^ i * 2 ^ (w - i) := by rw [← Nat.pow_add]; congr 1; omega
      rw [e, Nat.mul_assoc, Nat.add_mul_div_left _ _ (Nat.two_pow_pos i)]
      obtain ⟨t, ht⟩ : ∃ t, w - i = t + 1 := ⟨w - i - 1, by omega⟩
      rw [ht, Nat.pow_succ, Nat.mul_comm (2 ^ t) 2, Nat.mul_assoc, Nat.add_mul_mod_self_left]
      simp [at1]
    · have hd : d < 2 ^ w := h d (by simp)
      have e : i = (i - w) + w := by omega
      have e1 : i / w = (i - w) / w + 1 := by conv => lhs; rw [e, Nat.add_div_right _ hw]
      have e2 : i % w = (i - w) % w := by conv => lhs; rw [e, Nat.add_mod_right]
      rw [e1, e2, val]
      have ih := val_bit r (i - w) (fun x hx => h x (by simp [hx])) hw
      have e3 : at1 (d :: r) ((i - w) / w + 1) = at1 r ((i - w) / w) := by simp [at1]
      rw [e3, ← ih]
      conv => lhs; rw [e, Nat.add_comm (i - w) w, Nat.pow_add, ← Nat.div_div_eq_div_mul, Nat.add_mul_div_left _ _ (Nat.two_pow_pos w), Nat.div_eq_of_lt hd, Nat.zero_add]
theorem val_drop {B : Nat} (hB : 2 ≤ B) {l : List Nat} (h : Dg B l) (k : Nat) : val B (l.drop k) = val B l / B ^ k := by
  by_cases hk : k ≤ l.length
  · have e1 := val_split B hk
    have h2 := val_lt (by omega) (Dg_take h k)
    rw [List.length_take, Nat.min_eq_left hk] at h2
    rw [e1, Nat.add_mul_div_left _ _ (Nat.pow_pos (by omega)), Nat.div_eq_of_lt h2, Nat.zero_add]
  · rw [List.drop_eq_nil_of_le (by omega), val]
    have h2 := val_lt (by omega) h
    have : B ^ l.length ≤ B ^ k := Nat.pow_le_pow_right (by omega) (by omega)
    rw [Nat.div_eq_of_lt (by omega)]
end Go.Nm

namespace Go.Nm
def sg (neg : Bool) (n : Nat) : Int := if neg then -(n : Int) else n
theorem sg_abs (neg : Bool) (n : Nat) : (sg neg n).natAbs = n := by cases neg <;> simp [sg]
theorem sg_of (z : Int) : sg (decide (z < 0)) z.natAbs = z := by
  unfold sg
  by_cases h : z < 0 <;> simp [h] <;> omega
/-- Lowest terms. -/
theorem low_num (neg : Bool) (n d : Nat) (hd : d ≠ 0) : (mkRat (sg neg n) d).num.natAbs = n / Nat.gcd n d ∧ (mkRat (sg neg n) d).den = d / Nat.gcd n d ∧ (mkRat (sg neg n) d).num = sg neg (n / Nat.gcd n d) := by
  have hg : 0 < Nat.gcd n d := Nat.gcd_pos_of_pos_right n (by omega)
  have h1 : (mkRat (sg neg n) d).num = sg neg (n / Nat.gcd n d) := by
    rw [Rat.num_mkRat, if_neg hd, sg_abs, Nat.gcd_comm]
    cases neg with
    | false => simp [sg]
    | true =>
      simp only [sg, if_true]
      rw [Int.neg_ediv_of_dvd (Int.natCast_dvd_natCast.2 (Nat.gcd_dvd_left n d)), Int.natCast_ediv]
  refine ⟨by rw [h1, sg_abs], ?_, h1⟩
  rw [Rat.den_mkRat, if_neg hd, sg_abs, Nat.gcd_comm]
theorem low_neg (neg : Bool) (n d : Nat) (hd : d ≠ 0) (hn : n ≠ 0) : decide ((mkRat (sg neg n) d).num < 0) = neg := by
  rw [(low_num neg n d hd).2.2]
  have hg : 0 < Nat.gcd n d := Nat.gcd_pos_of_pos_right n (by omega)
  have : 0 < n / Nat.gcd n d := Nat.div_pos (Nat.le_of_dvd (by omega) (Nat.gcd_dvd_left n d)) hg
  cases neg <;> simp [sg] <;> omega
theorem sg_zero (neg : Bool) : sg neg 0 = 0 := by cases neg <;> rfl
theorem sg_neg (neg : Bool) (n : Nat) : sg (!neg) n = - sg neg n := by cases neg <;> simp [sg]
theorem sg_mul (a b : Bool) (n m : Nat) : sg a n * sg b m = sg (a != b) (n * m) := by cases a <;> cases b <;> simp [sg, Int.mul_neg, Int.neg_mul]
theorem sg_add_same (a : Bool) (n m : Nat) : sg a n + sg a m = sg a (n + m) := by cases a <;> simp [sg] <;> omega
theorem sg_add_ge {a b : Bool} (h : a ≠ b) {n m : Nat} (hm : m ≤ n) : sg a n + sg b m = sg a (n - m) := by
  cases a <;> cases b <;> simp [sg] at * <;> omega
theorem sg_add_lt {a b : Bool} (h : a ≠ b) {n m : Nat} (hm : n < m) : sg a n + sg b m = sg b (m - n) := by
  cases a <;> cases b <;> simp [sg] at * <;> omega
theorem sg_eq_zero {neg : Bool} {n : Nat} : sg neg n = 0 ↔ n = 0 := by cases neg <;> simp [sg] <;> omega
theorem sg_lt {neg : Bool} {n : Nat} (h : n ≠ 0) : sg neg n < 0 ↔ neg = true := by cases neg <;> simp [sg] <;> omega
/-- The sign of a rational number, as it is told. -/
def ng (q : Rat) : Bool := decide (q.num < 0)
def nm (q : Rat) : Nat := q.num.natAbs
theorem sg_num (q : Rat) : sg (ng q) (nm q) = q.num := sg_of q.num
theorem rat_sg (q : Rat) : mkRat (sg (ng q) (nm q)) q.den = q := by rw [sg_num]; exact Rat.mkRat_self q
theorem add_sg (p q : Rat) : p + q = mkRat (sg (ng p) (nm p * q.den) + sg (ng q) (nm q * p.den)) (p.den * q.den) := by
  rw [Rat.add_def']
  congr 1
  have : ∀ (r : Rat) (k : Nat), sg (ng r) (nm r * k) = r.num * k := fun r k => by
    have := sg_mul (ng r) false (nm r) k
    rw [sg_num] at this
    rw [show sg false k = (k : Int) from rfl] at this
    rw [this]; cases ng r <;> rfl
  rw [this, this]
theorem mul_sg (p q : Rat) : p * q = mkRat (sg (ng p != ng q) (nm p * nm q)) (p.den * q.den) := by
  rw [Rat.mul_def', ← sg_mul, sg_num, sg_num]
theorem nm_zero {q : Rat} : nm q = 0 ↔ q = 0 := by rw [nm, Int.natAbs_eq_zero, Rat.num_eq_zero]
theorem ng_iff {q : Rat} : ng q = true ↔ q < 0 := by
  rw [ng, decide_eq_true_eq, ← Rat.not_le, ← Rat.num_nonneg]
  exact ⟨fun h h2 => absurd h2 (Int.not_le.2 h), fun h => Int.not_le.1 h⟩
theorem nm_neg (q : Rat) : nm (-q) = nm q := by simp [nm]
theorem ng_neg (q : Rat) : ng (-q) = (!ng q && decide (nm q ≠ 0)) := by
  rw [Bool.eq_iff_iff]
  simp only [ng, nm, Rat.neg_num, decide_eq_true_eq, Bool.and_eq_true, Bool.not_eq_true', decide_eq_false_iff_not]
  constructor
  · intro h; exact ⟨by omega, decide_eq_true (by omega)⟩
  · rintro ⟨h1, h2⟩
    have := of_decide_eq_true h2
    omega
theorem abs_parts (q : Rat) : nm q.abs = nm q ∧ ng q.abs = false ∧ q.abs.den = q.den := by
  by_cases h : 0 ≤ q
  · rw [Rat.abs_of_nonneg h]
    refine ⟨rfl, ?_, rfl⟩
    rw [ng, decide_eq_false_iff_not]
    have := Rat.num_nonneg.2 h; omega
  · have h' : q ≤ 0 := Rat.le_of_lt (Rat.not_le.1 h)
    rw [Rat.abs_of_nonpos h']
    refine ⟨nm_neg q, ?_, rfl⟩
    rw [ng, decide_eq_false_iff_not, Rat.neg_num]
    have : ¬ 0 ≤ q.num := fun hh => h (Rat.num_nonneg.1 hh)
    omega
theorem inv_parts {q : Rat} (h : q ≠ 0) : nm q⁻¹ = q.den ∧ ng q⁻¹ = ng q ∧ q⁻¹.den = nm q := by
  have hn : q.num ≠ 0 := fun e => h (Rat.num_eq_zero.1 e)
  have hd := q.den_pos
  refine ⟨?_, ?_, ?_⟩
  · rw [nm, Rat.num_inv, Int.natAbs_mul, Int.natAbs_sign]; simp [hn]
  · rw [ng, ng, Rat.num_inv]
    rcases Int.lt_or_gt_of_ne hn with h1 | h1
    · rw [Int.sign_eq_neg_one_of_neg h1, decide_eq_true h1, decide_eq_true (by omega)]
    · rw [Int.sign_eq_one_of_pos h1, decide_eq_false (by omega), decide_eq_false (by omega)]
  · rw [Rat.den_inv, if_neg hn]; rfl
/-- How rational numbers compare. -/
def cmpR (p q : Rat) : Int := if p - q = 0 then 0 else if ng (p - q) = true then -1 else 1
theorem cmpR_pos {p q : Rat} : 0 < cmpR p q ↔ q < p := by
  unfold cmpR
  split
  · rename_i h
    have : p = q := by have := congrArg (· + q) h; simpa [Rat.sub_add_cancel, Rat.zero_add] using this
    subst this
    simp [Rat.lt_irrefl]
  · rename_i h
    split
    · rename_i h2
      have h3 := ng_iff.1 h2
      have : p < q := by
        rw [Rat.lt_iff_sub_pos]
        have := Rat.neg_lt_neg h3
        rw [Rat.neg_sub, Rat.neg_zero] at this; exact this
      constructor
      · intro h4; omega
      · intro h4; exact absurd (Rat.lt_irrefl (a := p)) (fun _ => Rat.not_lt.2 (Rat.le_of_lt this) h4 |>.elim)
    · rename_i h2
      refine ⟨fun _ => ?_, fun _ => by omega⟩
      rw [Rat.lt_iff_sub_pos]
      refine Rat.lt_of_le_of_ne (Rat.not_lt.1 fun hh => h2 (ng_iff.2 hh)) (fun e => h e.symm)
theorem cmpR_zero {p q : Rat} : cmpR p q = 0 ↔ p = q := by
  unfold cmpR
  constructor
  · intro h
    split at h
    · rename_i h0
      have := congrArg (· + q) h0; simpa [Rat.sub_add_cancel, Rat.zero_add] using this
    · split at h <;> omega
  · intro h; rw [if_pos (by rw [h]; exact Rat.sub_self)]
/-- The greatest part of a fraction that is returned. -/
def fits (q : Rat) : Bool := Nat.ble (nm q) 1000000000000000000 && Nat.ble q.den 1000000000000000000
theorem fits_iff {q : Rat} : fits q = true ↔ nm q ≤ 1000000000000000000 ∧ q.den ≤ 1000000000000000000 := by simp [fits]
/-- A pair of numbers that is a valid fraction. -/
def vfr (n d : Int) : Bool := decide (1 ≤ d) && (decide (d ≤ 1000000000000000000) && (decide (-1000000000000000000 ≤ n) && (decide (n ≤ 1000000000000000000) && Nat.beq (Nat.gcd n.natAbs d.toNat) 1)))
theorem vfr_rat {n d : Int} (h : vfr n d = true) : (mkRat n d.toNat).num = n ∧ ((mkRat n d.toNat).den : Int) = d ∧ fits (mkRat n d.toNat) = true := by
  simp only [vfr, Bool.and_eq_true, decide_eq_true_eq] at h
  obtain ⟨h1, h2, h3, h4, h5⟩ := h
  have h5 := Nat.eq_of_beq_eq_true h5
  have hd : d.toNat ≠ 0 := by omega
  have e1 : (mkRat n d.toNat).num = n := by rw [Rat.num_mkRat, if_neg hd, Nat.gcd_comm, h5]; simp
  have e2 : (mkRat n d.toNat).den = d.toNat := by rw [Rat.den_mkRat, if_neg hd, Nat.gcd_comm, h5]; simp
  refine ⟨e1, by rw [e2]; omega, fits_iff.2 ⟨?_, ?_⟩⟩
  · rw [nm, e1]; omega
  · rw [e2]; omega
theorem vfr_of {q : Rat} (h : fits q = true) : vfr q.num q.den = true := by
  have h := fits_iff.1 h
  have hd := q.den_pos
  have hr := q.reduced
  simp only [nm] at h
  simp only [vfr, Bool.and_eq_true, decide_eq_true_eq]
  refine ⟨by omega, by omega, by omega, by omega, ?_⟩
  rw [Int.toNat_natCast, hr]; rfl
/-! Greatest common divisors -/
theorem gcd_step (a b : Nat) (hb : 0 < b) : Nat.gcd a b = Nat.gcd b (a % b) := by
  rw [Nat.gcd_comm a b, Nat.gcd_rec b a, Nat.gcd_comm]
end Go.Nm

namespace Go.Abs
open Go Go.Nm
/-! ### Rows of cells -/
def RowA (σ : St) (b : Nat) (cs : List AV) : Prop := ∃ o, σ.get b = some ⟨cs, 1, o⟩ ∧ b < σ.n
theorem RowA.lt {σ : St} {b : Nat} {cs : List AV} (h : RowA σ b cs) : b < σ.n := by obtain ⟨_, _, h⟩ := h; exact h
theorem RowA.keep {σ σ' : St} {b : Nat} {cs : List AV} (h : RowA σ b cs) (hn : σ.n ≤ σ'.n) (he : σ'.get b = σ.get b) : RowA σ' b cs := by
  obtain ⟨o, h, hlt⟩ := h; exact ⟨o, by rw [he]; exact h, by omega⟩
theorem RowA.old {σ σ' : St} {b : Nat} {cs : List AV} (h : RowA σ b cs) (k : Old σ σ') : RowA σ' b cs := h.keep k.1 (k.2 b h.lt)
theorem RowA.but {σ σ' : St} {b c : Nat} {cs : List AV} (h : RowA σ c cs) (hc : c ≠ b) (k : But b σ σ') : RowA σ' c cs := h.keep (Nat.le_of_eq k.1.symm) (k.2 c hc)
theorem RowA.push {σ : St} {cs : List AV} {o : Bool} : RowA (σ.push ⟨cs, 1, o⟩) σ.n cs := ⟨o, get_push_same, Nat.lt_succ_self _⟩
theorem RowA.pushed {σ : St} {b : Nat} {cs : List AV} {x : Blk} (h : RowA σ b cs) : RowA (σ.push x) b cs := by
  obtain ⟨o, hg, hlt⟩ := h; exact ⟨o, by rw [get_push_lt hlt]; exact hg, Nat.lt_succ_of_lt hlt⟩
theorem getCells_one {cs : List AV} {i : Nat} {v : AV} (h : cs[i]? = some v) : getCells cs i 1 = some [v] := by
  obtain ⟨hi, hx⟩ := List.getElem?_eq_some_iff.1 h
  rw [getCells_eq, if_pos (by omega), List.drop_eq_getElem_cons hi, hx]
  rfl
theorem lp_cell {cs : List AV} {i : Nat} {v : AV} {σ : St} (h : cs[i]? = some v) : cellsAt σ (.lp cs i) 1 = some [v] := getCells_one h
theorem RowA.read {σ : St} {b i : Nat} {cs : List AV} {v : AV} (h : RowA σ b cs) (hv : cs[i]? = some v) : cellsAt σ (.ptr b i) 1 = some [v] := by
  obtain ⟨o, h, _⟩ := h
  simp only [cellsAt, h]
  exact getCells_one hv
theorem putN_cell {cs : List AV} {i : Nat} {v : AV} (h : i < cs.length) : putN i [v] cs = some (cs.set i v) := by
  rw [putN_eq, if_pos (by simp; omega)]
  congr 1
  unfold putCells
  rw [List.set_eq_take_append_cons_drop, if_pos h]
  simp
theorem RowA.store {σ : St} {b i : Nat} {cs : List AV} {v : AV} (h : RowA σ b cs) (hi : i < cs.length) (ho : v.one = true) :
    ∃ σ', storeCellsA σ b i [v] = some σ' ∧ RowA σ' b (cs.set i v) ∧ But b σ σ' := by
  obtain ⟨o, hg, hlt⟩ := h
  refine ⟨σ.set b ⟨cs.set i v, 1, o⟩, ?_, ⟨o, get_set_eq hg, hlt⟩, rfl, fun c hc => get_set_ne (fun e => hc e.symm)⟩
  unfold storeCellsA
  rw [hg]
  simp only [allOne, ho, Bool.and_self, putN_cell hi]
/-! ### Digits -/
def dgs (k : IntKind) (l : List Nat) : List AV := l.map fun (d : Nat) => .int k (d : Int)
theorem dgs_length (k : IntKind) (l : List Nat) : (dgs k l).length = l.length := by simp [dgs]
theorem dgs_get {k : IntKind} {l : List Nat} {i : Nat} (h : i < l.length) : (dgs k l)[i]? = some (.int k (at1 l i : Nat)) := by simp [dgs, at1_some h]
theorem dgs_set (k : IntKind) (l : List Nat) (i x : Nat) : (dgs k l).set i (.int k (x : Int)) = dgs k (l.set i x) := by simp [dgs, List.map_set]
theorem dgs_append (k : IntKind) (a b : List Nat) : dgs k (a ++ b) = dgs k a ++ dgs k b := by simp [dgs]
theorem dgs_one (k : IntKind) (x : Nat) : dgs k [x] = [.int k (x : Int)] := rfl
theorem dgs_nil (k : IntKind) : dgs k [] = [] := rfl
theorem allOne_dgs (k : IntKind) : ∀ l : List Nat, allOne (dgs k l) = true
  | [] => rfl
  | x :: r => by show (true && allOne (dgs k r)) = true; rw [allOne_dgs k r]; rfl
theorem frz_dgs (k : IntKind) (σ : St) (d : Nat) : ∀ l : List Nat, mapO (frzV σ (d + 1)) (dgs k l) = some (dgs k l)
  | [] => rfl
  | x :: r => mapO_cons rfl (frz_dgs k σ d r)
theorem scals_dgs (k : IntKind) : ∀ l : List Nat, scals (dgs k l) = true
  | [] => rfl
  | x :: r => by show (true && scals (dgs k r)) = true; rw [scals_dgs k r]; rfl
theorem eqvs_dgs (k : IntKind) : ∀ l : List Nat, eqvs (dgs k l) (dgs k l) = true
  | [] => rfl
  | x :: r => by
    show (AV.eqv (.int k (x : Int)) (.int k (x : Int)) && eqvs (dgs k r) (dgs k r)) = true
    rw [eqvs_dgs k r]; simp [AV.eqv]
theorem dgs_take (k : IntKind) (l : List Nat) (n : Nat) : (dgs k l).take n = dgs k (l.take n) := by simp [dgs, List.map_take]
theorem dgs_drop (k : IntKind) (l : List Nat) (n : Nat) : (dgs k l).drop n = dgs k (l.drop n) := by simp [dgs, List.map_drop]
theorem getCells_dgs {k : IntKind} {l : List Nat} {o n : Nat} (h : o + n ≤ l.length) : getCells (dgs k l) o n = some (dgs k ((l.drop o).take n)) := by
  rw [getCells_eq, if_pos (by rw [dgs_length]; exact h), dgs_drop, dgs_take]
theorem repeat_dgs (k : IntKind) : ∀ n : Nat, repeatCells [.int k 0] n = dgs k (List.replicate n 0)
  | 0 => rfl
  | n + 1 => by rw [repeatCells, repeat_dgs k n]; rfl
abbrev RowD (σ : St) (b : Nat) (k : IntKind) (l : List Nat) : Prop := RowA σ b (dgs k l)
theorem RowD.rd {σ : St} {b i : Nat} {k : IntKind} {l : List Nat} (h : RowD σ b k l) (hi : i < l.length) : cellsAt σ (.ptr b i) 1 = some [.int k (at1 l i : Nat)] := h.read (dgs_get hi)
theorem lp_dg {σ : St} {i : Nat} {k : IntKind} {l : List Nat} (hi : i < l.length) : cellsAt σ (.lp (dgs k l) i) 1 = some [.int k (at1 l i : Nat)] := lp_cell (dgs_get hi)
theorem RowD.st {σ : St} {b i : Nat} {k : IntKind} {l : List Nat} (h : RowD σ b k l) (hi : i < l.length) (x : Nat) : ∃ σ', storeCellsA σ b i [.int k (x : Int)] = some σ' ∧ RowD σ' b k (l.set i x) ∧ But b σ σ' := by
  obtain ⟨σ', h1, h2, h3⟩ := RowA.store h (i := i) (v := .int k (x : Int)) (by rw [dgs_length]; exact hi) rfl
  rw [dgs_set] at h2
  exact ⟨σ', h1, h2, h3⟩
theorem RowD.frz {σ : St} {b n c d : Nat} {k : IntKind} {l : List Nat} (h : RowD σ b k l) (hn : n ≤ l.length) (hc : n ≤ c) : frzV σ (d + 2) (.sl b 0 n c) = some (.lst n (dgs k (l.take n))) := by
  obtain ⟨o, hg, _⟩ := h
  unfold frzV
  simp only [hg, show 1 % 7000000000 = 1 from rfl, Nat.mul_one]
  rw [getCells_dgs (by omega)]
  simp only [List.drop_zero, frz_dgs, hc, if_true]
theorem RowD.frzAt {σ : St} {b f n c d : Nat} {k : IntKind} {l : List Nat} (h : RowD σ b k l) (hn : f + n ≤ l.length) (hc : n ≤ c) : frzV σ (d + 2) (.sl b f n c) = some (.lst n (dgs k ((l.drop f).take n))) := by
  obtain ⟨o, hg, _⟩ := h
  unfold frzV
  simp only [hg, show 1 % 7000000000 = 1 from rfl, Nat.mul_one]
  rw [getCells_dgs hn]
  simp only [frz_dgs, hc, if_true]
theorem make_dgs {T : Tab} {σ : St} {st e : TypeId} {k : IntKind} {y : Nat} {n : Nat} (ht : T.ty st = some ⟨.slice e, 1, 24, [.nilS]⟩) (he : T.ty e = some ⟨.int k, 1, y, [.int k 0]⟩) (hy : y ≤ 8) (hn : n ≤ 17592186044416) :
    makeSliceA T σ st (.int .i64 n) (.int .i64 n) = some (.sl σ.n 0 n n, σ.push ⟨dgs k (List.replicate n 0), 1, false⟩) := by
  unfold makeSliceA
  simp only [ht, he]
  have h1 : (n : Int) * (y : Int) ≤ 140737488355328 := by
    have : n * y ≤ 17592186044416 * 8 := Nat.mul_le_mul hn hy
    rw [← Int.natCast_mul]; omega
  rw [if_pos ⟨by omega, by omega, h1, by omega⟩]
  simp [repeat_dgs]
theorem build_dgs {T : Tab} {σ : St} {st e : TypeId} {k : IntKind} {y : Nat} {x : Int} (ht : T.ty st = some ⟨.slice e, 1, 24, [.nilS]⟩) (he : T.ty e = some ⟨.int k, 1, y, [.int k 0]⟩) :
    buildSliceA T σ st 1 [(0, .int k x)] = some (.sl σ.n 0 1 1, σ.push ⟨[.int k x], 1, false⟩) := by
  simp [buildSliceA, ht, he, fillA, repeatCells, putCells, AV.cellsOf, allOne, AV.one]
theorem build_dgs0 {T : Tab} {σ : St} {st e : TypeId} {k : IntKind} {y : Nat} (ht : T.ty st = some ⟨.slice e, 1, 24, [.nilS]⟩) (he : T.ty e = some ⟨.int k, 1, y, [.int k 0]⟩) :
    buildSliceA T σ st 0 [] = some (.sl σ.n 0 0 0, σ.push ⟨dgs k [], 1, false⟩) := by
  simp [buildSliceA, ht, he, fillA, repeatCells, dgs]
/-- An append of one digit to a full row. -/
theorem append_dgs {T : Tab} {σ : St} {b n : Nat} {k : IntKind} {l : List Nat} {x : Nat} {st e : TypeId} {y : Nat} (ht : T.ty st = some ⟨.slice e, 1, 24, [.nilS]⟩) (he : T.ty e = some ⟨.int k, 1, y, [.int k 0]⟩) (hy : 0 < y ∧ y ≤ 8)
    (hb : RowD σ b k l) (hn : n = l.length) (hs : n < 1000000000000) (hk8 : k ≠ .u8 := by decide) :
    ∃ σ', appendA T (σ.push ⟨[.int k (x : Int)], 1, false⟩) st st (.sl b 0 n n) (.sl σ.n 0 1 1) = some (.sl (σ.n + 1) 0 (n + 1) (n + 1), σ') ∧ RowD σ' (σ.n + 1) k (l ++ [x]) ∧ σ'.n = σ.n + 2 ∧ ∀ c, c ≠ b → c < σ.n → σ'.get c = σ.get c := by
  obtain ⟨o, hg, hlt⟩ := hb
  have h1 : firstA (σ.push ⟨[.int k (x : Int)], 1, false⟩) 1 1 (.sl σ.n 0 1 1) = some [.int k (x : Int)] := by
    simp [firstA, get_push_same, getCells, dropN, takeN]
  have hg2 : (σ.push ⟨[.int k (x : Int)], 1, false⟩).get b = some ⟨dgs k l, 1, o⟩ := by rw [get_push_lt hlt]; exact hg
  have hc : getCells (dgs k l) 0 n = some (dgs k l) := by rw [getCells_dgs (by omega), List.drop_zero, List.take_of_length_le (by omega)]
  have hyb : (n + 1) * y ≤ 140737488355328 := by
    have : (n + 1) * y ≤ 1000000000000 * 8 := Nat.mul_le_mul (by omega) hy.2
    omega
  refine ⟨(if o then (σ.push ⟨[.int k (x : Int)], 1, false⟩).del b else σ.push ⟨[.int k (x : Int)], 1, false⟩).push ⟨dgs k (l ++ [x]), 1, true⟩, ?_, ⟨true, ?_, ?_⟩, ?_, ?_⟩
  · unfold appendA
    simp only [ht, he, lenA, h1, allOne, AV.one, hg2, Nat.mul_one, hc]
    rw [if_neg (by simp), if_neg (by omega), if_pos ⟨hyb, by omega, trivial, by rw [dgs_length]; omega, hy.1⟩]
    have hgr : ∀ o : Bool, growE ⟨.int k, 1, y, [.int k 0]⟩ e ⟨dgs k l, 1, o⟩ 0 = 1 := fun o => by
      unfold growE; split
      · rename_i h _; simp only [TK.int.injEq] at h; exact absurd h hk8
      · rfl
    rw [hgr]
    cases o <;> simp [n_push, dgs]
  · cases o <;> exact get_push_same
  · cases o <;> simp [n_push, n_del]
  · cases o <;> rfl
  · intro c hc hcn
    have hd : ∀ τ : St, τ.n = σ.n + 1 → (τ.push ⟨dgs k (l ++ [x]), 1, true⟩).get c = τ.get c := fun τ h => get_push_lt (by omega)
    cases o
    · simp only [Bool.false_eq_true, if_false]
      rw [hd _ rfl, get_push_lt hcn]
    · simp only [if_true]
      rw [hd _ rfl, get_del_ne (fun e => hc e.symm), get_push_lt hcn]
/-! ### Functions that yield a frozen value -/
def FnF (T : Tab) (f : FuncId) (args' : List AV) (v : AV) : Prop := ∀ (σ : St) (args : List AV), mapO (frzV σ frzDepth) args = some args' → callI T f args σ = some (v, if v.scal = true then σ else σ.dels (args.flatMap (rowsV σ frzDepth)))
theorem FnF.mk {T : Tab} {f : FuncId} {F : Func} {c : Code} {args' : List AV} {v : AV} (hF : T.fn f = some F) (hB : F.body = some c) (hm : (T.an f).mode = 1)
    (hx : ∃ σ1 v1, exI T (FI.of F (T.an f)) [.code c] (paramsE 0 args') ⟨[], 0⟩ = some (v1, σ1) ∧ frzV σ1 frzDepth v1 = some v) : FnF T f args' v := by
  intro σ args ha
  obtain ⟨σ1, v1, hx, hv⟩ := hx
  refine cI_1 hF hB hm ha hx ?_
  unfold frzR
  rw [hv]
  cases h : v.scal <;> simp [h]
theorem FnF.mkv {T : Tab} {f : FuncId} {F : Func} {c : Code} {args' : List AV} {v : AV} (hF : T.fn f = some F) (hB : F.body = some c) (hm : (T.an f).mode = 1)
    (hx : ∃ σ1, exI T (FI.of F (T.an f)) [.code c] (paramsE 0 args') ⟨[], 0⟩ = some (v, σ1)) (hv : ∀ σ1, frzV σ1 frzDepth v = some v) : FnF T f args' v := by
  obtain ⟨σ1, h⟩ := hx
  exact FnF.mk hF hB hm ⟨σ1, v, h, hv σ1⟩
/-- A call with frozen values leaves the heap alone. -/
theorem FnF.pure {T : Tab} {f : FuncId} {args : List AV} {v : AV} (h : FnF T f args v) (σ : St) (h1 : mapO (frzV σ frzDepth) args = some args) (h2 : args.flatMap (rowsV σ frzDepth) = []) : callI T f args σ = some (v, σ) := by
  have := h σ args h1
  rw [h2] at this
  simpa [St.dels] using this
theorem FnF.args {T : Tab} {f : FuncId} {args args' : List AV} {v : AV} (h : FnF T f args' v) {σ : St} (h1 : mapO (frzV σ frzDepth) args = some args') : ∃ σ', callI T f args σ = some (v, σ') ∧ σ'.n = σ.n := by
  refine ⟨_, h σ args h1, ?_⟩
  have hd : ∀ (l : List Nat) (σ : St), (σ.dels l).n = σ.n := fun l => by
    induction l with
    | nil => intro σ; rfl
    | cons b r ih => intro σ; rw [St.dels, ih]; rfl
  split
  · rfl
  · exact hd _ _
theorem rows_dgs (k : IntKind) (σ : St) (d : Nat) : ∀ l : List Nat, (dgs k l).flatMap (rowsV σ d) = []
  | [] => rfl
  | x :: r => by
    show rowsV σ d (.int k (x : Int)) ++ (dgs k r).flatMap (rowsV σ d) = []
    rw [rows_dgs k σ d r]
    cases d <;> rfl
theorem rows_sl {σ : St} {b f n c d : Nat} {k : IntKind} {l : List Nat} (h : RowD σ b k l) (hn : f + n ≤ l.length) : rowsV σ (d + 1) (.sl b f n c) = [b] := by
  obtain ⟨o, hg, _⟩ := h
  unfold rowsV
  simp only [hg, show 1 % 7000000000 = 1 from rfl, Nat.mul_one]
  rw [getCells_dgs hn]
  simp only [rows_dgs]
/-- A row that is given away. -/
theorem FnF.row {T : Tab} {f : FuncId} {v : AV} {k : IntKind} {l : List Nat} {n c : Nat} (h : FnF T f [.lst n (dgs k (l.take n))] v) {σ : St} {b : Nat} (hr : RowD σ b k l) (hn : n ≤ l.length) (hc : n ≤ c) : ∃ σ', callI T f [.sl b 0 n c] σ = some (v, σ') ∧ But b σ σ' := by
  refine ⟨_, h σ [.sl b 0 n c] (mapO_cons (hr.frz hn hc) rfl), ?_⟩
  split
  · exact ⟨rfl, fun _ _ => rfl⟩
  · have : [AV.sl b 0 n c].flatMap (rowsV σ frzDepth) = [b] := by
      show rowsV σ frzDepth (.sl b 0 n c) ++ [] = [b]
      rw [show frzDepth = 5 + 1 from rfl, rows_sl hr (by omega)]; rfl
    rw [this]
    refine ⟨rfl, fun x hx => get_del_ne (fun e => hx e.symm)⟩
/-! ### Natural numbers: digits to the base 2^32, to the base 2^30 -/
def NA (n : Nat) : AV := .lst (dg 4294967296 n).length (dgs .u32 (dg 4294967296 n))
def SB (n : Nat) : AV := .lst (dg 1073741824 n).length (dgs .i64 (dg 1073741824 n))
theorem frz_NA {σ : St} {d n : Nat} : frzV σ (d + 1) (NA n) = some (NA n) := rfl
theorem frz_SB {σ : St} {d n : Nat} : frzV σ (d + 1) (SB n) = some (SB n) := rfl
/-! ### Kinds -/
theorem wrap32 (n : Nat) : wrapA .u32 (n : Int) = ((n % 4294967296 : Nat) : Int) := by
  rw [wrapA_eq]; simp [IntKind.wrap, IntKind.bits, IntKind.signed]
theorem wrap32_id {n : Int} (h0 : 0 ≤ n) (h : n ≤ 4294967295) : wrapA .u32 n = n := by
  rw [wrapA_eq]; simp [IntKind.wrap, IntKind.bits, IntKind.signed]; omega
theorem wrap64_id {n : Int} (h0 : 0 ≤ n) (h : n ≤ 18446744073709551615) : wrapA .u64 n = n := by
  rw [wrapA_eq]; simp [IntKind.wrap, IntKind.bits, IntKind.signed]; omega
theorem shrU32 (a : Nat) : shrA (a : Int) (min 32 IntKind.u64.bits) = ((a / 4294967296 : Nat) : Int) := rfl
theorem shlU32 (a : Nat) : shlA (a : Int) (min 32 IntKind.u64.bits) = ((a * 4294967296 : Nat) : Int) := rfl
theorem shr30 (a : Nat) : shrA (a : Int) (min 30 IntKind.i64.bits) = ((a / 1073741824 : Nat) : Int) := rfl
theorem shr32i (a : Nat) : shrA (a : Int) (min 32 IntKind.i64.bits) = ((a / 4294967296 : Nat) : Int) := rfl
theorem and30 {a : Nat} (h : a ≤ 9223372036854775807) : bitsA .and .i64 (a : Int) 1073741823 = some (.int .i64 ((a % 1073741824 : Nat) : Int)) := by
  have h1 := w_and .i64 (a := a) (b := 1073741823) h (by decide)
  rw [show (1073741823 : Nat) = 2 ^ 30 - 1 from rfl, Nat.and_two_pow_sub_one_eq_mod] at h1
  exact h1
theorem or_low {a b : Nat} (ha : a < 4294967296) (hb : b < 4294967296) : bitsA .or .u64 ((a * 4294967296 : Nat) : Int) (b : Int) = some (.int .u64 ((a * 4294967296 + b : Nat) : Int)) := by
  have h1 := w_or .u64 (a := a * 4294967296) (b := b) (by simp only [topOf]; omega) (by simp only [topOf]; omega)
  have h2 := Nat.two_pow_add_eq_or_of_lt (i := 32) (b := b) (by simpa using hb) a
  rw [show (2 : Nat) ^ 32 = 4294967296 from rfl, Nat.mul_comm 4294967296 a] at h2
  rw [← h2] at h1
  exact h1
end Go.Abs
namespace Go.Proofs.YtjecbjnckbihoaaDoor
open Go Go.Abs Go.Nm
/-- A cell of a list. -/
def at0 (l : List Int) (i : Nat) : Int := l.getD i 0
theorem at0_mem {l : List Int} {i : Nat} (h : i < l.length) : at0 l i ∈ l := by simp [at0, List.getD_eq_getElem?_getD, h]
theorem at0_some {l : List Int} {i : Nat} (h : i < l.length) : l[i]? = some (at0 l i) := by simp [at0, List.getD_eq_getElem?_getD, h]
theorem at0_of {l : List Int} {i : Nat} {x : Int} (h : l[i]? = some x) : at0 l i = x := by simp [at0, List.getD_eq_getElem?_getD, h]
theorem at0_set (z : List Int) (a b : Nat) (x : Int) (h : a < z.length) : at0 (z.set a x) b = if b = a then x else at0 z b := by
  simp only [at0, List.getD_eq_getElem?_getD, List.getElem?_set]
  by_cases h1 : b = a
  · subst h1; simp [h]
  · have : ¬ a = b := fun e => h1 e.symm
    simp [h1, this]
theorem ileb_t {a b : Int} (h : a ≤ b) : ileb a b = true := by rw [ileb_eq]; exact decide_eq_true h
theorem ileb_f {a b : Int} (h : b < a) : ileb a b = false := by rw [ileb_eq]; exact decide_eq_false (by omega)
theorem ieqb_t {a b : Int} (h : a = b) : ieqb a b = true := by rw [ieqb_dec]; exact decide_eq_true h
theorem ieqb_f {a b : Int} (h : a ≠ b) : ieqb a b = false := by rw [ieqb_dec]; exact decide_eq_false h
theorem ieqb_self {a : Int} : ieqb a a = true := ieqb_t rfl
theorem inB_t {n : Int} {len : Nat} (h : 0 ≤ n) (h2 : n < len) : inB n len = true := by rw [inB_dec]; exact decide_eq_true ⟨h, h2⟩
theorem lp_read {l : List Int} {i : Nat} {σ : St} (h : i < l.length) : cellsAt σ (.lp (ints l) i) 1 = some [.int .i64 (at0 l i)] := lst_read (at0_some h)
theorem row_rd {σ : St} {b i : Nat} {l : List Int} (h : Row σ b l) (hi : i < l.length) : cellsAt σ (.ptr b i) 1 = some [.int .i64 (at0 l i)] := h.read (at0_some hi)
attribute [local simp] xI_seq xI_region xI_ret regA regOps runOps opStep wantedA opA evo evos calleeA lk nif_eq putE paramsE valS val2 keepE restrict finA resA binA binInt ofConst ofConst1 loadA TK.isAgg asVar unA builtinA lenOpA lenA indexAddrA evPairs storeA AV.cellsOf pairsOf xI_nil binBool gcE evOpt runTr pairsOk pairOk sameVal AV.eqv lastOf lstAt eqvs boundA indexA regF twoOf prsOf memI runTrF selF runTr2 freshOp scals AV.scal tagZ isI64 pureLd loadP boxP xI_block xI_loopH xI_condM xI_exitM xI_skip xI_blk exitA List.getElem?_cons_zero List.getElem?_cons_succ List.getElem?_toArray List.getElem?_nil ileb_t ileb_f ieqb_t ieqb_f inB_t wrapA_id lp_read ieqb_self Nat.blt_eq cond_true cond_false ty2 ty3 ty5 ty9 ty41 ty73 ty74

theorem mkU (σ : St) (n : Nat) (hn : n ≤ 17592186044416) : makeSliceA TT σ 41 (.int .i64 n) (.int .i64 n) = some (.sl σ.n 0 n n, σ.push ⟨dgs .u32 (List.replicate n 0), 1, false⟩) := make_dgs ty41 ty74 (by decide) hn
theorem trimL_step {l : List Nat} {n : Nat} (hn : n < l.length) : trimL (l.take (n + 1)) = if at1 l n = 0 then trimL (l.take n) else l.take (n + 1) := by
  rw [take_succ1 hn]
  split
  · rename_i h; rw [h, trimL_zero]
  · rename_i h; rw [trimL_last _ h]

noncomputable def b51 : Code := Tryd.f51.body.getD .skip
noncomputable def B51_0 : Code := (bodyC (bodyC (fstC (sndC (sndC b51)))))
noncomputable def K51_0 : List It := .lp B51_0 :: .blk 0 :: .code (sndC (sndC (sndC b51))) :: []
theorem xl51_0 {fi : FI} {env : Env} {σ : St} : exI TT fi K51_0 env σ = exI TT fi (.code B51_0 :: K51_0) env σ := by unfold K51_0; exact xI_lp
noncomputable def R51_0_0 : List It := .code (sndC (sndC (sndC b51))) :: []
theorem eK51_0_0 : exitA 0 K51_0 = some R51_0_0 := rfl
theorem l51 (l : List Nat) (len : Nat) (hlen : len = l.length) (hs : len < 1000000000000) (σ : St) : ∀ n, n ≤ len → trimL (l.take n) = trimL l →
    exI TT (FI.of Tryd.f51 (TT.an 51)) K51_0 [(0, .lst len (dgs .u32 l)), (3, .int .i64 n)] σ = some (.lst (trimL l).length (dgs .u32 (trimL l)), σ) := by
  intro n
  induction n with
  | zero =>
    intro hn ht
    have e : trimL l = [] := by rw [← ht]; rfl
    rw [e]
    rw [fi51, xl51_0]
    simp only [B51_0, b51, Tryd.f51, Option.getD, fstC, sndC, bodyC, thnC, elsC]
    simp (maxSteps := 1000000) (disch := omega) [eK51_0_0]
    simp only [R51_0_0, b51, Tryd.f51, Option.getD, fstC, sndC, bodyC, thnC, elsC]
    have hz : (0 : Int) ≤ (len : Int) := by omega
    simp [xI_seq, xI_region, xI_ret, regA, regOps, runOps, opStep, wantedA, opA, evo, evos, calleeA, lk, nif_eq, putE, paramsE, valS, val2, keepE, restrict, finA, resA, binA, binInt, ofConst, ofConst1, loadA, TK.isAgg, asVar, unA, builtinA, lenOpA, lenA, ileb_cast, ileb_eq, ieqb_dec, indexAddrA, inB_dec, evPairs, storeA, AV.cellsOf, pairsOf, xI_nil, binBool, gcE, evOpt, tagZ, isI64, pureLd, loadP, boxP, xI_block, xI_loopH, xI_condM, xI_exitM, xI_skip, xI_blk, exitA, ty3, ty41, ty74, eK51_0_0, sliceA, boundA, hz, getCells, takeN, dropN]
    try rfl
  | succ n ih =>
    intro hn ht
    rw [trimL_step (by omega)] at ht
    have hrd := lp_dg (σ := σ) (k := .u32) (l := l) (i := n) (by omega)
    have hw : wrapA .i64 (((n + 1 : Nat) : Int) - 1) = (n : Int) := by rw [wrapA_id (by omega) (by omega)]; omega
    have hpos : (0 : Int) < ((n + 1 : Nat) : Int) := by omega
    have hnl : n < len := by omega
    by_cases h0 : at1 l n = 0
    · rw [if_pos h0] at ht
      have ih := ih (by omega) ht
      rw [← ih]
      have h0' : ((at1 l n : Nat) : Int) = 0 := by omega
      rw [h0'] at hrd
      generalize n + 1 = n1 at *
      clear ih
      rw [fi51, xl51_0]
      simp only [B51_0, b51, Tryd.f51, Option.getD, fstC, sndC, bodyC, thnC, elsC]
      simp (maxSteps := 1000000) (disch := omega) [eK51_0_0, hrd, hw, dgs_length]
    · rw [if_neg h0] at ht
      have h0' : ¬ ((at1 l n : Nat) : Int) = 0 := by omega
      have hl : (trimL l).length = n + 1 := by rw [← ht, List.length_take]; omega
      have hbd : ((n + 1 : Nat) : Int) ≤ (len : Int) := by omega
      have hgc : getCells (dgs .u32 l) 0 (n + 1) = some (dgs .u32 (trimL l)) := by rw [getCells_dgs (by omega), List.drop_zero, ht]
      rw [hl]
      have hn1 : n + 1 ≤ len := hn
      generalize n + 1 = n1 at *
      clear ih
      rw [fi51, xl51_0]
      simp only [B51_0, b51, Tryd.f51, Option.getD, fstC, sndC, bodyC, thnC, elsC]
      simp (maxSteps := 1000000) (disch := omega) [eK51_0_0, hrd, hw, h0']
      simp only [R51_0_0, b51, Tryd.f51, Option.getD, fstC, sndC, bodyC, thnC, elsC]
      have hbd2 : (n1 : Int) ≤ (len : Int) := by omega
      simp [xI_seq, xI_region, xI_ret, regA, regOps, runOps, opStep, wantedA, opA, evo, evos, calleeA, lk, nif_eq, putE, paramsE, valS, val2, keepE, restrict, finA, resA, binA, binInt, ofConst, ofConst1, loadA, TK.isAgg, asVar, unA, builtinA, lenOpA, lenA, ileb_cast, ileb_eq, ieqb_dec, indexAddrA, inB_dec, evPairs, storeA, AV.cellsOf, pairsOf, xI_nil, binBool, gcE, evOpt, tagZ, isI64, pureLd, loadP, boxP, xI_block, xI_loopH, xI_condM, xI_exitM, xI_skip, xI_blk, exitA, ty3, ty41, ty74, eK51_0_0, sliceA, boundA, hbd2, hgc]
theorem v51 (l : List Nat) (len : Nat) (hlen : len = l.length) (hs : len < 1000000000000) : FnF TT 51 [.lst len (dgs .u32 l)] (.lst (trimL l).length (dgs .u32 (trimL l))) := by
  have h := l51 l len hlen hs ⟨[], 0⟩ len (Nat.le_refl _) (by rw [List.take_of_length_le (by omega)])
  refine FnF.mkv fn51 rfl md51 ⟨⟨[], 0⟩, ?_⟩ (fun _ => rfl)
  rw [← h, fi51]
  simp (maxSteps := 1000000) (disch := omega) [eK51_0_0]
  rfl
/-- A row without the zeros at its end, frozen. -/
theorem t51 {l : List Nat} {len : Nat} (hlen : len = l.length) (hs : len < 1000000000000) {σ : St} {b cap : Nat} (hc : len ≤ cap) (hr : RowD σ b .u32 l) (hd : Dg 4294967296 l) : ∃ σ', callI TT 51 [.sl b 0 len cap] σ = some (NA (val 4294967296 l), σ') ∧ But b σ σ' := by
  have h := v51 l len hlen hs
  have e : l.take len = l := List.take_of_length_le (by omega)
  obtain ⟨σ', h1, h2⟩ := FnF.row (l := l) (c := cap) (by rw [e]; exact h) hr (by omega) hc
  refine ⟨σ', ?_, h2⟩
  rw [h1, trim_dg (by decide) hd]
  rfl

noncomputable def b36 : Code := Tryd.f36.body.getD .skip
noncomputable def B36_0 : Code := (bodyC (bodyC (sndC (fstC (sndC (sndC b36))))))
noncomputable def K36_0 : List It := .lp B36_0 :: .blk 0 :: .code (sndC (sndC (sndC b36))) :: []
theorem xl36_0 {fi : FI} {env : Env} {σ : St} : exI TT fi K36_0 env σ = exI TT fi (.code B36_0 :: K36_0) env σ := by unfold K36_0; exact xI_lp
noncomputable def R36_0_0 : List It := .code (sndC (sndC (sndC b36))) :: []
theorem eK36_0_0 : exitA 0 K36_0 = some R36_0_0 := rfl
/-- How natural numbers compare, as the program tells it: below 0, 0, above 0. -/
def SgnOf (z : Int) (a b : Nat) : Prop := (z < 0 ↔ a < b) ∧ (0 < z ↔ b < a)
theorem SgnOf.zero {z : Int} {a b : Nat} (h : SgnOf z a b) : z = 0 ↔ a = b := by obtain ⟨h1, h2⟩ := h; omega
theorem l36 (a b : List Nat) (len : Nat) (ha : len = a.length) (hb : len = b.length) (da : Dg 4294967296 a) (db : Dg 4294967296 b) (hs : len < 1000000000000) (σ : St) : ∀ m, m ≤ len → (∀ j, m ≤ j → j < len → at1 a j = at1 b j) →
    ∃ z, exI TT (FI.of Tryd.f36 (TT.an 36)) K36_0 [(0, .lst len (dgs .u32 a)), (1, .lst len (dgs .u32 b)), (5, .int .i64 ((m : Int) - 1))] σ = some (.int .i64 z, σ) ∧ SgnOf z (val 4294967296 a) (val 4294967296 b) := by
  intro m
  induction m with
  | zero =>
    intro hm he
    have : a = b := by
      apply List.ext_getElem (by omega)
      intro i h1 h2
      have := he i (by omega) (by omega)
      simpa [at1, h1, h2] using this
    subst this
    refine ⟨0, ?_, by unfold SgnOf; omega⟩
    rw [fi36, xl36_0]
    simp only [B36_0, b36, Tryd.f36, Option.getD, fstC, sndC, bodyC, thnC, elsC]
    simp (maxSteps := 1000000) (disch := omega) [eK36_0_0]
    simp only [R36_0_0, b36, Tryd.f36, Option.getD, fstC, sndC, bodyC, thnC, elsC]
    simp (maxSteps := 1000000) (disch := omega) [eK36_0_0]
  | succ m ih =>
    intro hm he
    have hc : ((m + 1 : Nat) : Int) - 1 = (m : Int) := by omega
    rw [hc]
    have r1 := lp_dg (σ := σ) (k := .u32) (l := a) (i := m) (by omega)
    have r2 := lp_dg (σ := σ) (k := .u32) (l := b) (i := m) (by omega)
    by_cases hx : at1 a m = at1 b m
    · obtain ⟨z, h1, h2⟩ := ih (by omega) (fun j h1 h2 => by
        by_cases e : j = m
        · rw [e]; exact hx
        · exact he j (by omega) h2)
      refine ⟨z, ?_, h2⟩
      rw [← h1]
      have hw : wrapA .i64 ((m : Int) - 1) = (m : Int) - 1 := wrapA_id (by omega) (by omega)
      rw [hx] at r1
      clear ih h1
      rw [fi36, xl36_0]
      simp only [B36_0, b36, Tryd.f36, Option.getD, fstC, sndC, bodyC, thnC, elsC]
      simp (maxSteps := 1000000) (disch := omega) [eK36_0_0, r1, r2, hw, hx]
    · have hx' : ¬ ((at1 a m : Nat) : Int) = ((at1 b m : Nat) : Int) := by omega
      by_cases hlt : at1 a m < at1 b m
      · have hc1 := cmp_top (B := 4294967296) (by decide) (by omega) da db m (by omega) (fun j h1 h2 => he j (by omega) (by omega)) hlt
        refine ⟨-1, ?_, by unfold SgnOf; omega⟩
        clear ih
        rw [fi36, xl36_0]
        simp only [B36_0, b36, Tryd.f36, Option.getD, fstC, sndC, bodyC, thnC, elsC]
        simp (maxSteps := 1000000) (disch := omega) [eK36_0_0, r1, r2, hx']
      · have hc1 := cmp_top (B := 4294967296) (by decide) (by omega) db da m (by omega) (fun j h1 h2 => (he j (by omega) (by omega)).symm) (by omega)
        refine ⟨1, ?_, by unfold SgnOf; omega⟩
        clear ih
        rw [fi36, xl36_0]
        simp only [B36_0, b36, Tryd.f36, Option.getD, fstC, sndC, bodyC, thnC, elsC]
        simp (maxSteps := 1000000) (disch := omega) [eK36_0_0, r1, r2, hx']
theorem v36 (a b : Nat) (ha : (dg 4294967296 a).length < 1000000000000) (hb : (dg 4294967296 b).length < 1000000000000) : ∃ z : Int, FnV TT 36 [NA a, NA b] (.int .i64 z) ∧ SgnOf z a b := by
  unfold NA
  by_cases he : (dg 4294967296 a).length = (dg 4294967296 b).length
  · obtain ⟨z, h1, h2⟩ := l36 (dg 4294967296 a) (dg 4294967296 b) (dg 4294967296 a).length rfl he (dg_Dg (by decide) a) (dg_Dg (by decide) b) ha ⟨[], 0⟩ (dg 4294967296 a).length (Nat.le_refl _) (fun j h1 h2 => by omega)
    rw [val_dg (by decide), val_dg (by decide)] at h2
    refine ⟨z, FnV.mk fn36 rfl md36 ⟨⟨[], 0⟩, ?_⟩ (fun _ => rfl) rfl, h2⟩
    rw [← h1, ← he]
    generalize (dg 4294967296 a).length = len at *
    have hw : wrapA .i64 ((len : Int) - 1) = (len : Int) - 1 := wrapA_id (by omega) (by omega)
    rw [fi36]
    simp (maxSteps := 1000000) (disch := omega) [eK36_0_0, hw]
    rfl
  · refine ⟨((dg 4294967296 a).length : Int) - (dg 4294967296 b).length, FnV.mk fn36 rfl md36 ⟨⟨[], 0⟩, ?_⟩ (fun _ => rfl) rfl, ?_⟩
    · generalize (dg 4294967296 a).length = la at *
      generalize (dg 4294967296 b).length = lb at *
      have he' : ¬ (la : Int) = (lb : Int) := by omega
      rw [fi36]
      simp (maxSteps := 1000000) (disch := omega) [eK36_0_0, he, he']
    · have h1 := dg_len_lt (B := 4294967296) (by decide) (a := a) (b := b)
      have h2 := dg_len_lt (B := 4294967296) (by decide) (a := b) (b := a)
      unfold SgnOf
      omega

noncomputable def b35 : Code := Tryd.f35.body.getD .skip
noncomputable def B35_0 : Code := (bodyC (bodyC (sndC (fstC (sndC (sndC (sndC b35)))))))
noncomputable def K35_0 : List It := .lp B35_0 :: .blk 0 :: .code (sndC (sndC (sndC (sndC b35)))) :: []
theorem xl35_0 {fi : FI} {env : Env} {σ : St} : exI TT fi K35_0 env σ = exI TT fi (.code B35_0 :: K35_0) env σ := by unfold K35_0; exact xI_lp
noncomputable def R35_0_0 : List It := .code (sndC (sndC (sndC (sndC b35)))) :: []
theorem eK35_0_0 : exitA 0 K35_0 = some R35_0_0 := rfl
theorem take_set_app {l pre : List Nat} {i x : Nat} {z : List Nat} : (pre ++ x :: z).set pre.length i = pre ++ i :: z := by simp
set_option maxHeartbeats 2000000 in
theorem l35 (a b : List Nat) (la lb : Nat) (ha : la = a.length) (hb : lb = b.length) (da : Dg 4294967296 a) (db : Dg 4294967296 b) (hba : lb ≤ la) (hs : la < 100000000000) (r : Nat) : ∀ (m i c : Nat) (pre : List Nat) (σ : St), i + m = la + 1 → c ≤ 1 → pre.length = i → Dg 4294967296 pre → RowD σ r .u32 (pre ++ List.replicate m 0) →
    ∃ σ', exI TT (FI.of Tryd.f35 (TT.an 35)) K35_0 [(0, .lst la (dgs .u32 a)), (1, .lst lb (dgs .u32 b)), (5, .sl r 0 (la + 1) (la + 1)), (6, .int .u64 c), (20, .int .i64 (la + 1 : Nat)), (21, .int .i64 i)] σ = some (NA (val 4294967296 (pre ++ addG 4294967296 a b m i c)), σ') := by
  intro m
  induction m with
  | zero =>
    intro i c pre σ hi hc hp hd hr
    have hr' : RowD σ r .u32 pre := by simpa using hr
    obtain ⟨σ2, e1, _⟩ := t51 (len := la + 1) (cap := la + 1) (by omega) (by omega) (Nat.le_refl _) hr' hd
    refine ⟨σ2, ?_⟩
    have hi' : i = la + 1 := by omega
    subst hi'
    rw [addG, List.append_nil]
    generalize la + 1 = l1 at *
    rw [fi35, xl35_0]
    simp only [B35_0, b35, Tryd.f35, Option.getD, fstC, sndC, bodyC, thnC, elsC]
    simp (maxSteps := 1000000) (disch := omega) [eK35_0_0]
    simp only [R35_0_0, b35, Tryd.f35, Option.getD, fstC, sndC, bodyC, thnC, elsC]
    simp (maxSteps := 1000000) (disch := omega) [eK35_0_0, e1]
  | succ m ih =>
    intro i c pre σ hi hc hp hd hr
    have h1 := at1_lt (B := 4294967296) (by decide) da i
    have h2 := at1_lt (B := 4294967296) (by decide) db i
    have hq : (c + at1 a i + at1 b i) / 4294967296 ≤ 1 := by omega
    obtain ⟨σ1, s1, q1, u1⟩ := RowD.st hr (i := i) (by simp; omega) ((c + at1 a i + at1 b i) % 4294967296)
    have hset : (pre ++ List.replicate (m + 1) 0).set i ((c + at1 a i + at1 b i) % 4294967296) = (pre ++ [(c + at1 a i + at1 b i) % 4294967296]) ++ List.replicate m 0 := by
      rw [List.replicate_succ, ← hp]; simp
    rw [hset] at q1
    obtain ⟨σ', k1⟩ := ih (i + 1) ((c + at1 a i + at1 b i) / 4294967296) (pre ++ [(c + at1 a i + at1 b i) % 4294967296]) σ1 (by omega) hq (by simp [hp]) (Dg_app hd fun x hx => by simp at hx; rw [hx]; exact Nat.mod_lt _ (by decide)) q1
    have happ : pre ++ addG 4294967296 a b (m + 1) i c = pre ++ [(c + at1 a i + at1 b i) % 4294967296] ++ addG 4294967296 a b m (i + 1) ((c + at1 a i + at1 b i) / 4294967296) := by rw [addG]; simp
    rw [happ]
    refine ⟨σ', ?_⟩
    rw [← k1]
    have hw : wrapA .i64 ((i : Int) + 1) = ((i + 1 : Nat) : Int) := by rw [wrapA_id (by omega) (by omega)]; omega
    have c1 : wrapA .u64 ((at1 a i : Nat) : Int) = ((at1 a i : Nat) : Int) := wrap64_id (by omega) (by omega)
    have c2 : wrapA .u64 ((at1 b i : Nat) : Int) = ((at1 b i : Nat) : Int) := wrap64_id (by omega) (by omega)
    have c3 : wrapA .u64 ((c : Int) + ((at1 a i : Nat) : Int)) = ((c + at1 a i : Nat) : Int) := by rw [wrap64_id (by omega) (by omega)]; omega
    have c4 : wrapA .u64 (((c + at1 a i : Nat) : Int) + ((at1 b i : Nat) : Int)) = ((c + at1 a i + at1 b i : Nat) : Int) := by rw [wrap64_id (by omega) (by omega)]; omega
    have c5 := wrap32 (c + at1 a i + at1 b i)
    have c6 := shrU32 (c + at1 a i + at1 b i)
    have hil : i < la + 1 := by omega
    generalize ht0 : c + at1 a i = t0 at *
    generalize ht : t0 + at1 b i = t at *
    generalize t / 4294967296 = q at *
    generalize t % 4294967296 = w at *
    generalize i + 1 = i1 at *
    generalize la + 1 = l1 at *
    clear ih k1
    by_cases hia : i < la
    · have r1 := fun σ => lp_dg (σ := σ) (k := .u32) (l := a) (i := i) (by omega)
      by_cases hib : i < lb
      · have r2 := fun σ => lp_dg (σ := σ) (k := .u32) (l := b) (i := i) (by omega)
        rw [fi35, xl35_0]
        simp only [B35_0, b35, Tryd.f35, Option.getD, fstC, sndC, bodyC, thnC, elsC]
        simp (maxSteps := 1000000) (disch := omega) [eK35_0_0, r1, r2, convA, c1, c2, c3, c4, c5, c6, hw, s1]
      · have hz : at1 b i = 0 := at1_out (by omega)
        obtain rfl : t = t0 := by omega
        rw [fi35, xl35_0]
        simp only [B35_0, b35, Tryd.f35, Option.getD, fstC, sndC, bodyC, thnC, elsC]
        simp (maxSteps := 1000000) (disch := omega) [eK35_0_0, r1, convA, c1, c3, c5, c6, hw, s1]
    · have hz : at1 a i = 0 := at1_out (by omega)
      have hz2 : at1 b i = 0 := at1_out (by omega)
      obtain rfl : t0 = c := by omega
      obtain rfl : t = t0 := by omega
      rw [fi35, xl35_0]
      simp only [B35_0, b35, Tryd.f35, Option.getD, fstC, sndC, bodyC, thnC, elsC]
      simp (maxSteps := 1000000) (disch := omega) [eK35_0_0, convA, c5, c6, hw, s1]
theorem v35 (a b : Nat) (ha : (dg 4294967296 a).length < 1000000000) (hb : (dg 4294967296 b).length < 1000000000) : FnF TT 35 [NA a, NA b] (NA (a + b)) := by
  have key : ∀ x y : Nat, (dg 4294967296 y).length ≤ (dg 4294967296 x).length → (dg 4294967296 x).length < 1000000000 → ∃ σ1, exI TT (FI.of Tryd.f35 (TT.an 35)) K35_0 [(0, NA x), (1, NA y), (5, .sl 0 0 ((dg 4294967296 x).length + 1) ((dg 4294967296 x).length + 1)), (6, .int .u64 0), (20, .int .i64 ((dg 4294967296 x).length + 1 : Nat)), (21, .int .i64 0)] ((⟨[], 0⟩ : St).push ⟨dgs .u32 (List.replicate ((dg 4294967296 x).length + 1) 0), 1, false⟩) = some (NA (x + y), σ1) := by
    intro x y hle hlx
    obtain ⟨σ1, h1⟩ := l35 (dg 4294967296 x) (dg 4294967296 y) _ _ rfl rfl (dg_Dg (by decide) x) (dg_Dg (by decide) y) hle (by omega) 0 ((dg 4294967296 x).length + 1) 0 0 [] ((⟨[], 0⟩ : St).push ⟨dgs .u32 (List.replicate ((dg 4294967296 x).length + 1) 0), 1, false⟩) (by omega) (by omega) rfl (fun d hd => by simp at hd) RowA.push
    rw [List.nil_append] at h1
    have hv := add_dg (B := 4294967296) (by decide) (dg_Dg (by decide) x) (dg_Dg (by decide) y) (Nat.le_refl _) hle
    rw [val_dg (by decide), val_dg (by decide)] at hv
    rw [hv] at h1
    exact ⟨σ1, h1⟩
  refine FnF.mkv fn35 rfl md35 ?_ (fun _ => rfl)
  by_cases hlt : (dg 4294967296 a).length < (dg 4294967296 b).length
  · obtain ⟨σ1, h1⟩ := key b a (by omega) hb
    rw [Nat.add_comm b a] at h1
    refine ⟨σ1, ?_⟩
    rw [← h1]
    have hm := mkU (⟨[], 0⟩ : St) ((dg 4294967296 b).length + 1) (by omega)
    simp only [NA]
    have hw : wrapA .i64 (((dg 4294967296 b).length : Int) + 1) = (((dg 4294967296 b).length + 1 : Nat) : Int) := by rw [wrapA_id (by omega) (by omega)]; omega
    generalize (dg 4294967296 b).length + 1 = l1 at *
    generalize (dg 4294967296 b).length = lb at *
    generalize (dg 4294967296 a).length = la at *
    clear h1 key
    rw [fi35]
    simp (maxSteps := 1000000) (disch := omega) [eK35_0_0, hm, hw]
    rfl
  · obtain ⟨σ1, h1⟩ := key a b (by omega) ha
    refine ⟨σ1, ?_⟩
    rw [← h1]
    have hm := mkU (⟨[], 0⟩ : St) ((dg 4294967296 a).length + 1) (by omega)
    simp only [NA]
    have hw : wrapA .i64 (((dg 4294967296 a).length : Int) + 1) = (((dg 4294967296 a).length + 1 : Nat) : Int) := by rw [wrapA_id (by omega) (by omega)]; omega
    generalize (dg 4294967296 a).length + 1 = l1 at *
    generalize (dg 4294967296 b).length = lb at *
    generalize (dg 4294967296 a).length = la at *
    clear h1 key
    rw [fi35]
    simp (maxSteps := 1000000) (disch := omega) [eK35_0_0, hm, hw]
    rfl

theorem ownL_dgs {σ1 : St} {d : Nat} {σ : St} {used : List Nat} {k : IntKind} : ∀ (l : List Nat), ownL (ownV σ1 (d + 1)) σ used (dgs k l) = some (dgs k l, σ, used)
  | [] => rfl
  | x :: r => by
    have h : ownV σ1 (d + 1) σ used (.int k (x : Int)) = some (.int k (x : Int), σ, used) := rfl
    show ownL (ownV σ1 (d + 1)) σ used (.int k (x : Int) :: dgs k r) = some (.int k (x : Int) :: dgs k r, σ, used)
    simp only [ownL, h, ownL_dgs r]
theorem own_dgs {σ1 σ : St} {b n c d : Nat} {used : List Nat} {k : IntKind} {l : List Nat} {o : Bool} (hb : σ1.get b = some ⟨dgs k l, 1, o⟩) (hu : used.contains b = false) : ownV σ1 (d + 2) σ used (.sl b 0 n c) = some (.sl σ.n 0 n c, σ.push ⟨dgs k l, 1, o⟩, b :: used) := by
  unfold ownV
  simp only [hb, List.drop_zero, ownL_dgs]
  rw [if_pos ⟨hu, by omega⟩]
/-- A function that hands over a row of digits. -/
theorem own_row {T : Tab} {f : FuncId} {Fn : Func} {c : Code} {args args' : List AV} {k : IntKind} {n cap : Nat} {σ : St} (hF : T.fn f = some Fn) (hB : Fn.body = some c) (hm : (T.an f).mode = 2) (ha : mapO (frzV σ frzDepth) args = some args') {l : List Nat}
    (hx : ∃ σ1 b, exI T (FI.of Fn (T.an f)) [.code c] (paramsE 0 args') ⟨[], 0⟩ = some (.sl b 0 n cap, σ1) ∧ RowD σ1 b k l) : ∃ o, callI T f args σ = some (.sl σ.n 0 n cap, σ.push ⟨dgs k l, 1, o⟩) := by
  obtain ⟨σ1, b, hx, o, hb, _⟩ := hx
  refine ⟨o, cI_2 hF hB hm ha hx ?_⟩
  unfold ownR
  simp only [ownDepth, own_dgs (d := 4) (used := []) hb rfl]

noncomputable def b37 : Code := Tryd.f37.body.getD .skip
noncomputable def B37_0 : Code := (bodyC (bodyC (sndC (fstC (sndC (sndC b37))))))
noncomputable def K37_0 : List It := .lp B37_0 :: .blk 0 :: .code (sndC (sndC (sndC b37))) :: []
theorem xl37_0 {fi : FI} {env : Env} {σ : St} : exI TT fi K37_0 env σ = exI TT fi (.code B37_0 :: K37_0) env σ := by unfold K37_0; exact xI_lp
noncomputable def R37_0_0 : List It := .code (sndC (sndC (sndC b37))) :: []
theorem eK37_0_0 : exitA 0 K37_0 = some R37_0_0 := rfl
theorem at_win {σ : St} {ab : Nat} (l0 : List Nat) (af la : Nat) (a : List Nat) (htk : (l0.drop af).take la = a) (hl0 : af + la ≤ l0.length) (ha : la = a.length) (hra : RowD σ ab .u32 l0) : ∀ i, i < la → cellsAt σ (.ptr ab (af + i)) 1 = some [.int .u32 (at1 a i : Nat)] := by
  intro i hi
  have h := hra.rd (i := af + i) (by omega)
  have e : at1 a i = at1 l0 (af + i) := by
    rw [← htk]
    simp only [at1, List.getD_eq_getElem?_getD, List.getElem?_take, hi, if_true, List.getElem?_drop]
  rw [e]; exact h

set_option maxHeartbeats 2000000 in
theorem l37s (a b : List Nat) (la lb : Nat) (ha : la = a.length) (hb : lb = b.length) (da : Dg 4294967296 a) (db : Dg 4294967296 b) (hs : la < 100000000000) (hs2 : lb < 100000000000) (r : Nat) (ab af acap : Nat) (l0 : List Nat) (hl0 : af + la ≤ l0.length) (htk : (l0.drop af).take la = a) (hab : ab ≠ r) : ∀ (m i c : Nat) (pre : List Nat) (σ : St), i + m = la → c ≤ 1 → pre.length = i → Dg 4294967296 pre → RowD σ r .u32 (pre ++ List.replicate m 0) → RowD σ ab .u32 l0 →
    ∃ σ', exI TT (FI.of Tryd.f37 (TT.an 37)) K37_0 [(0, .sl ab af la acap), (1, .lst lb (dgs .u32 b)), (5, .sl r 0 la la), (6, .int .i64 c), (13, .int .i64 la), (14, .int .i64 i)] σ = some (NA (val 4294967296 (pre ++ subG 4294967296 a b m i c)), σ') ∧ But r σ σ' := by
  intro m
  induction m with
  | zero =>
    intro i c pre σ hi hc hp hd hr hra
    have hr' : RowD σ r .u32 pre := by simpa using hr
    obtain ⟨σ2, e1, u2⟩ := t51 (len := la) (cap := la) (by omega) (by omega) (Nat.le_refl _) hr' hd
    refine ⟨σ2, ?_, u2⟩
    have hi' : i = la := by omega
    subst hi'
    rw [subG, List.append_nil]
    rw [fi37, xl37_0]
    simp only [B37_0, b37, Tryd.f37, Option.getD, fstC, sndC, bodyC, thnC, elsC]
    simp (maxSteps := 1000000) (disch := omega) [eK37_0_0]
    simp only [R37_0_0, b37, Tryd.f37, Option.getD, fstC, sndC, bodyC, thnC, elsC]
    simp (maxSteps := 1000000) (disch := omega) [eK37_0_0, e1]
  | succ m ih =>
    intro i c pre σ hi hc hp hd hr hra
    have h1 := at1_lt (B := 4294967296) (by decide) da i
    have h2 := at1_lt (B := 4294967296) (by decide) db i
    have hil : i < la := by omega
    have hrep : ∀ x, (pre ++ List.replicate (m + 1) 0).set i x = (pre ++ [x]) ++ List.replicate m 0 := fun x => by
      rw [List.replicate_succ, ← hp]; simp
    have hstep : ∀ (x c2 : Nat), c2 ≤ 1 → x < 4294967296 → subG 4294967296 a b (m + 1) i c = x :: subG 4294967296 a b m (i + 1) c2 → ∃ σ1 σ', storeCellsA σ r i [.int .u32 (x : Int)] = some σ1 ∧ exI TT (FI.of Tryd.f37 (TT.an 37)) K37_0 [(0, .sl ab af la acap), (1, .lst lb (dgs .u32 b)), (5, .sl r 0 la la), (6, .int .i64 c2), (13, .int .i64 la), (14, .int .i64 (i + 1 : Nat))] σ1 = some (NA (val 4294967296 (pre ++ subG 4294967296 a b (m + 1) i c)), σ') ∧ But r σ σ' := by
      intro x c2 hc2 hx he
      obtain ⟨σ1, s1, q1, u1⟩ := RowD.st hr (i := i) (by simp; omega) x
      rw [hrep] at q1
      obtain ⟨σ', k1, k2⟩ := ih (i + 1) c2 (pre ++ [x]) σ1 (by omega) hc2 (by simp [hp]) (Dg_app hd fun y hy => by simp at hy; rw [hy]; exact hx) q1 (RowA.but hra hab u1)
      rw [he]
      refine ⟨σ1, σ', s1, ?_, k2.1.trans u1.1, fun y hy => (k2.2 y hy).trans (u1.2 y hy)⟩
      rw [k1]; simp
    have hw : wrapA .i64 ((i : Int) + 1) = ((i + 1 : Nat) : Int) := by rw [wrapA_id (by omega) (by omega)]; omega
    have r1 := (at_win l0 af la a htk hl0 ha hra) i hil
    have c1 : wrapA .i64 ((at1 a i : Nat) : Int) = ((at1 a i : Nat) : Int) := wrapA_id (by omega) (by omega)
    have c2 : wrapA .i64 ((at1 b i : Nat) : Int) = ((at1 b i : Nat) : Int) := wrapA_id (by omega) (by omega)
    have c3 : wrapA .i64 (((at1 a i : Nat) : Int) - (c : Int)) = ((at1 a i : Nat) : Int) - (c : Int) := wrapA_id (by omega) (by omega)
    have c4 : wrapA .i64 (((at1 a i : Nat) : Int) - (c : Int) - ((at1 b i : Nat) : Int)) = ((at1 a i : Nat) : Int) - (c : Int) - ((at1 b i : Nat) : Int) := wrapA_id (by omega) (by omega)
    clear ih
    by_cases hlt : at1 a i < c + at1 b i
    · obtain ⟨σ1, σ', s1, k1, k2⟩ := hstep (at1 a i + 4294967296 - c - at1 b i) 1 (Nat.le_refl _) (by omega) (by rw [subG, if_pos hlt])
      refine ⟨σ', ?_, k2⟩
      rw [← k1]
      have c5 : wrapA .i64 (((at1 a i : Nat) : Int) - (c : Int) - ((at1 b i : Nat) : Int) + 4294967296) = ((at1 a i + 4294967296 - c - at1 b i : Nat) : Int) := by rw [wrapA_id (by omega) (by omega)]; omega
      have c6 : wrapA .u32 ((at1 a i + 4294967296 - c - at1 b i : Nat) : Int) = ((at1 a i + 4294967296 - c - at1 b i : Nat) : Int) := wrap32_id (by omega) (by omega)
      have hneg : ((at1 a i : Nat) : Int) - (c : Int) - ((at1 b i : Nat) : Int) < 0 := by omega
      simp only [show ((1 : Nat) : Int) = 1 from rfl]
      generalize at1 a i + 4294967296 - c - at1 b i = x at *
      generalize i + 1 = i1 at *
      clear k1 hstep hrep
      by_cases hib : i < lb
      · have r2 := fun σ => lp_dg (σ := σ) (k := .u32) (l := b) (i := i) (by omega)
        generalize at1 a i = ai at *
        generalize at1 b i = bi at *
        rw [fi37, xl37_0]
        simp only [B37_0, b37, Tryd.f37, Option.getD, fstC, sndC, bodyC, thnC, elsC]
        simp (maxSteps := 1000000) (disch := omega) [eK37_0_0, r1, r2, convA, c1, c2, c3, c4, c5, c6, hw, s1]
      · have hz : at1 b i = 0 := at1_out (by omega)
        rw [hz] at c4 c5 hneg
        simp only [show ((0 : Nat) : Int) = 0 from rfl, Int.sub_zero] at c4 c5 hneg
        generalize at1 a i = ai at *
        rw [fi37, xl37_0]
        simp only [B37_0, b37, Tryd.f37, Option.getD, fstC, sndC, bodyC, thnC, elsC]
        simp (maxSteps := 1000000) (disch := omega) [eK37_0_0, r1, convA, c1, c3, c5, c6, hw, s1]
    · obtain ⟨σ1, σ', s1, k1, k2⟩ := hstep (at1 a i - c - at1 b i) 0 (by omega) (by omega) (by rw [subG, if_neg hlt])
      refine ⟨σ', ?_, k2⟩
      rw [← k1]
      have c5 : ((at1 a i : Nat) : Int) - (c : Int) - ((at1 b i : Nat) : Int) = ((at1 a i - c - at1 b i : Nat) : Int) := by omega
      have c6 : wrapA .u32 ((at1 a i - c - at1 b i : Nat) : Int) = ((at1 a i - c - at1 b i : Nat) : Int) := wrap32_id (by omega) (by omega)
      have c7 : (0 : Int) ≤ ((at1 a i - c - at1 b i : Nat) : Int) := by omega
      simp only [show ((0 : Nat) : Int) = 0 from rfl]
      rw [c5] at c4
      generalize i + 1 = i1 at *
      clear k1 hstep hrep
      by_cases hib : i < lb
      · have r2 := fun σ => lp_dg (σ := σ) (k := .u32) (l := b) (i := i) (by omega)
        generalize at1 a i - c - at1 b i = x at *
        generalize at1 a i = ai at *
        generalize at1 b i = bi at *
        rw [fi37, xl37_0]
        simp only [B37_0, b37, Tryd.f37, Option.getD, fstC, sndC, bodyC, thnC, elsC]
        simp (maxSteps := 1000000) (disch := omega) [eK37_0_0, r1, r2, convA, c1, c2, c3, c4, c5, c6, hw, s1]
      · have hz : at1 b i = 0 := at1_out (by omega)
        rw [hz] at c4 c5 c6 c7 s1
        simp only [show ((0 : Nat) : Int) = 0 from rfl, Int.sub_zero, Nat.sub_zero] at c4 c5 c6 c7 s1
        rw [c5] at c3
        generalize at1 a i - c = x at *
        generalize at1 a i = ai at *
        rw [fi37, xl37_0]
        simp only [B37_0, b37, Tryd.f37, Option.getD, fstC, sndC, bodyC, thnC, elsC]
        simp (maxSteps := 1000000) (disch := omega) [eK37_0_0, r1, convA, c1, c3, c5, c6, hw, s1]
/-- A difference, in the caller's heap. -/
theorem m37s (a b : List Nat) (la : Nat) (ha : la = a.length) (da : Dg 4294967296 a) (db : Dg 4294967296 b) (hba : b.length ≤ a.length) (hv : val 4294967296 b ≤ val 4294967296 a) (hs : la < 10000000000) (σ : St) (ab af acap : Nat) (l0 : List Nat) (hl0 : af + la ≤ l0.length) (htk : (l0.drop af).take la = a) (hra : RowD σ ab .u32 l0) :
    ∃ σ', callI TT 37 [.sl ab af la acap, .lst b.length (dgs .u32 b)] σ = some (NA (val 4294967296 a - val 4294967296 b), σ') ∧ Old σ σ' := by
  have hsub := sub_dg (B := 4294967296) (by decide) da db hba hv
  rw [← ha] at hsub
  obtain ⟨σ1, h1, u1⟩ := l37s a b la b.length ha rfl da db (by omega) (by omega) σ.n ab af acap l0 hl0 htk (by have := hra.lt; omega) la 0 0 [] (σ.push ⟨dgs .u32 (List.replicate la 0), 1, false⟩) (by omega) (by omega) rfl (fun d hd => by simp at hd) RowA.push hra.pushed
  rw [List.nil_append, hsub] at h1
  refine ⟨σ1, ?_, by rw [u1.1]; exact Nat.le_succ _, fun c hc => by rw [u1.2 c (by omega), get_push_lt hc]⟩
  rw [← h1]
  have hm := mkU σ la (by omega)
  generalize b.length = lb at *
  clear h1
  rw [cI_0 fn37 rfl md37, fi37]
  simp (maxSteps := 1000000) (disch := omega) [eK37_0_0, hm]
  rfl

set_option maxHeartbeats 2000000 in
theorem l37l (a b : List Nat) (la lb : Nat) (ha : la = a.length) (hb : lb = b.length) (da : Dg 4294967296 a) (db : Dg 4294967296 b) (hs : la < 100000000000) (hs2 : lb < 100000000000) (r : Nat) : ∀ (m i c : Nat) (pre : List Nat) (σ : St), i + m = la → c ≤ 1 → pre.length = i → Dg 4294967296 pre → RowD σ r .u32 (pre ++ List.replicate m 0) →
    ∃ σ', exI TT (FI.of Tryd.f37 (TT.an 37)) K37_0 [(0, .lst la (dgs .u32 a)), (1, .lst lb (dgs .u32 b)), (5, .sl r 0 la la), (6, .int .i64 c), (13, .int .i64 la), (14, .int .i64 i)] σ = some (NA (val 4294967296 (pre ++ subG 4294967296 a b m i c)), σ') ∧ But r σ σ' := by
  intro m
  induction m with
  | zero =>
    intro i c pre σ hi hc hp hd hr
    have hr' : RowD σ r .u32 pre := by simpa using hr
    obtain ⟨σ2, e1, u2⟩ := t51 (len := la) (cap := la) (by omega) (by omega) (Nat.le_refl _) hr' hd
    refine ⟨σ2, ?_, u2⟩
    have hi' : i = la := by omega
    subst hi'
    rw [subG, List.append_nil]
    rw [fi37, xl37_0]
    simp only [B37_0, b37, Tryd.f37, Option.getD, fstC, sndC, bodyC, thnC, elsC]
    simp (maxSteps := 1000000) (disch := omega) [eK37_0_0]
    simp only [R37_0_0, b37, Tryd.f37, Option.getD, fstC, sndC, bodyC, thnC, elsC]
    simp (maxSteps := 1000000) (disch := omega) [eK37_0_0, e1]
  | succ m ih =>
    intro i c pre σ hi hc hp hd hr
    have h1 := at1_lt (B := 4294967296) (by decide) da i
    have h2 := at1_lt (B := 4294967296) (by decide) db i
    have hil : i < la := by omega
    have hrep : ∀ x, (pre ++ List.replicate (m + 1) 0).set i x = (pre ++ [x]) ++ List.replicate m 0 := fun x => by
      rw [List.replicate_succ, ← hp]; simp
    have hstep : ∀ (x c2 : Nat), c2 ≤ 1 → x < 4294967296 → subG 4294967296 a b (m + 1) i c = x :: subG 4294967296 a b m (i + 1) c2 → ∃ σ1 σ', storeCellsA σ r i [.int .u32 (x : Int)] = some σ1 ∧ exI TT (FI.of Tryd.f37 (TT.an 37)) K37_0 [(0, .lst la (dgs .u32 a)), (1, .lst lb (dgs .u32 b)), (5, .sl r 0 la la), (6, .int .i64 c2), (13, .int .i64 la), (14, .int .i64 (i + 1 : Nat))] σ1 = some (NA (val 4294967296 (pre ++ subG 4294967296 a b (m + 1) i c)), σ') ∧ But r σ σ' := by
      intro x c2 hc2 hx he
      obtain ⟨σ1, s1, q1, u1⟩ := RowD.st hr (i := i) (by simp; omega) x
      rw [hrep] at q1
      obtain ⟨σ', k1, k2⟩ := ih (i + 1) c2 (pre ++ [x]) σ1 (by omega) hc2 (by simp [hp]) (Dg_app hd fun y hy => by simp at hy; rw [hy]; exact hx) q1
      rw [he]
      refine ⟨σ1, σ', s1, ?_, k2.1.trans u1.1, fun y hy => (k2.2 y hy).trans (u1.2 y hy)⟩
      rw [k1]; simp
    have hw : wrapA .i64 ((i : Int) + 1) = ((i + 1 : Nat) : Int) := by rw [wrapA_id (by omega) (by omega)]; omega
    have r1 := (fun (i : Nat) (hi : i < la) => lp_dg (σ := σ) (k := .u32) (l := a) (i := i) (by omega)) i hil
    have c1 : wrapA .i64 ((at1 a i : Nat) : Int) = ((at1 a i : Nat) : Int) := wrapA_id (by omega) (by omega)
    have c2 : wrapA .i64 ((at1 b i : Nat) : Int) = ((at1 b i : Nat) : Int) := wrapA_id (by omega) (by omega)
    have c3 : wrapA .i64 (((at1 a i : Nat) : Int) - (c : Int)) = ((at1 a i : Nat) : Int) - (c : Int) := wrapA_id (by omega) (by omega)
    have c4 : wrapA .i64 (((at1 a i : Nat) : Int) - (c : Int) - ((at1 b i : Nat) : Int)) = ((at1 a i : Nat) : Int) - (c : Int) - ((at1 b i : Nat) : Int) := wrapA_id (by omega) (by omega)
    clear ih
    by_cases hlt : at1 a i < c + at1 b i
    · obtain ⟨σ1, σ', s1, k1, k2⟩ := hstep (at1 a i + 4294967296 - c - at1 b i) 1 (Nat.le_refl _) (by omega) (by rw [subG, if_pos hlt])
      refine ⟨σ', ?_, k2⟩
      rw [← k1]
      have c5 : wrapA .i64 (((at1 a i : Nat) : Int) - (c : Int) - ((at1 b i : Nat) : Int) + 4294967296) = ((at1 a i + 4294967296 - c - at1 b i : Nat) : Int) := by rw [wrapA_id (by omega) (by omega)]; omega
      have c6 : wrapA .u32 ((at1 a i + 4294967296 - c - at1 b i : Nat) : Int) = ((at1 a i + 4294967296 - c - at1 b i : Nat) : Int) := wrap32_id (by omega) (by omega)
      have hneg : ((at1 a i : Nat) : Int) - (c : Int) - ((at1 b i : Nat) : Int) < 0 := by omega
      simp only [show ((1 : Nat) : Int) = 1 from rfl]
      generalize at1 a i + 4294967296 - c - at1 b i = x at *
      generalize i + 1 = i1 at *
      clear k1 hstep hrep
      by_cases hib : i < lb
      · have r2 := fun σ => lp_dg (σ := σ) (k := .u32) (l := b) (i := i) (by omega)
        generalize at1 a i = ai at *
        generalize at1 b i = bi at *
        rw [fi37, xl37_0]
        simp only [B37_0, b37, Tryd.f37, Option.getD, fstC, sndC, bodyC, thnC, elsC]
        simp (maxSteps := 1000000) (disch := omega) [eK37_0_0, r1, r2, convA, c1, c2, c3, c4, c5, c6, hw, s1]
      · have hz : at1 b i = 0 := at1_out (by omega)
        rw [hz] at c4 c5 hneg
        simp only [show ((0 : Nat) : Int) = 0 from rfl, Int.sub_zero] at c4 c5 hneg
        generalize at1 a i = ai at *
        rw [fi37, xl37_0]
        simp only [B37_0, b37, Tryd.f37, Option.getD, fstC, sndC, bodyC, thnC, elsC]
        simp (maxSteps := 1000000) (disch := omega) [eK37_0_0, r1, convA, c1, c3, c5, c6, hw, s1]
    · obtain ⟨σ1, σ', s1, k1, k2⟩ := hstep (at1 a i - c - at1 b i) 0 (by omega) (by omega) (by rw [subG, if_neg hlt])
      refine ⟨σ', ?_, k2⟩
      rw [← k1]
      have c5 : ((at1 a i : Nat) : Int) - (c : Int) - ((at1 b i : Nat) : Int) = ((at1 a i - c - at1 b i : Nat) : Int) := by omega
      have c6 : wrapA .u32 ((at1 a i - c - at1 b i : Nat) : Int) = ((at1 a i - c - at1 b i : Nat) : Int) := wrap32_id (by omega) (by omega)
      have c7 : (0 : Int) ≤ ((at1 a i - c - at1 b i : Nat) : Int) := by omega
      simp only [show ((0 : Nat) : Int) = 0 from rfl]
      rw [c5] at c4
      generalize i + 1 = i1 at *
      clear k1 hstep hrep
      by_cases hib : i < lb
      · have r2 := fun σ => lp_dg (σ := σ) (k := .u32) (l := b) (i := i) (by omega)
        generalize at1 a i - c - at1 b i = x at *
        generalize at1 a i = ai at *
        generalize at1 b i = bi at *
        rw [fi37, xl37_0]
        simp only [B37_0, b37, Tryd.f37, Option.getD, fstC, sndC, bodyC, thnC, elsC]
        simp (maxSteps := 1000000) (disch := omega) [eK37_0_0, r1, r2, convA, c1, c2, c3, c4, c5, c6, hw, s1]
      · have hz : at1 b i = 0 := at1_out (by omega)
        rw [hz] at c4 c5 c6 c7 s1
        simp only [show ((0 : Nat) : Int) = 0 from rfl, Int.sub_zero, Nat.sub_zero] at c4 c5 c6 c7 s1
        rw [c5] at c3
        generalize at1 a i - c = x at *
        generalize at1 a i = ai at *
        rw [fi37, xl37_0]
        simp only [B37_0, b37, Tryd.f37, Option.getD, fstC, sndC, bodyC, thnC, elsC]
        simp (maxSteps := 1000000) (disch := omega) [eK37_0_0, r1, convA, c1, c3, c5, c6, hw, s1]
/-- A difference, in the caller's heap. -/
theorem m37l (a b : List Nat) (la : Nat) (ha : la = a.length) (da : Dg 4294967296 a) (db : Dg 4294967296 b) (hba : b.length ≤ a.length) (hv : val 4294967296 b ≤ val 4294967296 a) (hs : la < 10000000000) (σ : St) :
    ∃ σ', callI TT 37 [.lst la (dgs .u32 a), .lst b.length (dgs .u32 b)] σ = some (NA (val 4294967296 a - val 4294967296 b), σ') ∧ Old σ σ' := by
  have hsub := sub_dg (B := 4294967296) (by decide) da db hba hv
  rw [← ha] at hsub
  obtain ⟨σ1, h1, u1⟩ := l37l a b la b.length ha rfl da db (by omega) (by omega) σ.n la 0 0 [] (σ.push ⟨dgs .u32 (List.replicate la 0), 1, false⟩) (by omega) (by omega) rfl (fun d hd => by simp at hd) RowA.push
  rw [List.nil_append, hsub] at h1
  refine ⟨σ1, ?_, by rw [u1.1]; exact Nat.le_succ _, fun c hc => by rw [u1.2 c (by omega), get_push_lt hc]⟩
  rw [← h1]
  have hm := mkU σ la (by omega)
  generalize b.length = lb at *
  clear h1
  rw [cI_0 fn37 rfl md37, fi37]
  simp (maxSteps := 1000000) (disch := omega) [eK37_0_0, hm]
  rfl

theorem n37 (a b : Nat) (h : b ≤ a) (ha : (dg 4294967296 a).length < 10000000000) (σ : St) : ∃ σ', callI TT 37 [NA a, NA b] σ = some (NA (a - b), σ') ∧ Old σ σ' := by
  have hle : (dg 4294967296 b).length ≤ (dg 4294967296 a).length := Nat.le_of_not_lt fun hlt => by
    have := dg_len_lt (B := 4294967296) (by decide) hlt; omega
  have := m37l (dg 4294967296 a) (dg 4294967296 b) _ rfl (dg_Dg (by decide) a) (dg_Dg (by decide) b) hle (by rw [val_dg (by decide), val_dg (by decide)]; exact h) ha σ
  rw [val_dg (by decide), val_dg (by decide)] at this
  exact this

noncomputable def b34 : Code := Tryd.f34.body.getD .skip
noncomputable def B34_0 : Code := (bodyC (bodyC (sndC (fstC (sndC (sndC b34))))))
noncomputable def K34_0 : List It := .lp B34_0 :: .blk 0 :: .code (sndC (sndC (sndC b34))) :: []
theorem xl34_0 {fi : FI} {env : Env} {σ : St} : exI TT fi K34_0 env σ = exI TT fi (.code B34_0 :: K34_0) env σ := by unfold K34_0; exact xI_lp
noncomputable def R34_0_0 : List It := .code (sndC (sndC (sndC b34))) :: []
theorem eK34_0_0 : exitA 0 K34_0 = some R34_0_0 := rfl
noncomputable def B34_1 : Code := (bodyC (bodyC (sndC (fstC (sndC (sndC (bodyC (fstC (sndC (sndC (bodyC (bodyC (sndC (fstC (sndC (sndC b34))))))))))))))))
noncomputable def K34_1 : List It := .lp B34_1 :: .blk 2 :: .code (sndC (sndC (sndC (bodyC (fstC (sndC (sndC (bodyC (bodyC (sndC (fstC (sndC (sndC b34))))))))))))) :: .blk 1 :: .code (sndC (sndC (sndC (bodyC (bodyC (sndC (fstC (sndC (sndC b34))))))))) :: K34_0
theorem xl34_1 {fi : FI} {env : Env} {σ : St} : exI TT fi K34_1 env σ = exI TT fi (.code B34_1 :: K34_1) env σ := by unfold K34_1; exact xI_lp
noncomputable def R34_1_2 : List It := .code (sndC (sndC (sndC (bodyC (fstC (sndC (sndC (bodyC (bodyC (sndC (fstC (sndC (sndC b34))))))))))))) :: .blk 1 :: .code (sndC (sndC (sndC (bodyC (bodyC (sndC (fstC (sndC (sndC b34))))))))) :: K34_0
theorem eK34_1_2 : exitA 2 K34_1 = some R34_1_2 := rfl
noncomputable def R34_1_1 : List It := .code (sndC (sndC (sndC (bodyC (bodyC (sndC (fstC (sndC (sndC b34))))))))) :: K34_0
theorem eK34_1_1 : exitA 1 K34_1 = some R34_1_1 := rfl
theorem eK34_1_0 : exitA 0 K34_1 = some R34_0_0 := rfl
set_option maxHeartbeats 2000000 in
theorem d34 (a b : List Nat) (la lb : Nat) (ha : la = a.length) (hb : lb = b.length) (db : Dg 4294967296 b) (r L i x : Nat) (hi : i < la) (hL : L = la + lb) (hs : L < 100000000000) (hx : x < 4294967296) : ∀ (m k c : Nat) (out : List Nat) (σ : St), k + m = lb → c < 4294967296 → out.length = L → Dg 4294967296 out → RowD σ r .u32 out →
    ∃ σ', exI TT (FI.of Tryd.f34 (TT.an 34)) K34_1 [(1, .lst lb (dgs .u32 b)), (5, .sl r 0 L L), (6, .int .i64 i), (7, .int .u32 x), (8, .int .u64 c), (17, .lst la (dgs .u32 a)), (18, .int .i64 la), (19, .int .i64 i), (24, .lst lb (dgs .u32 b)), (25, .int .i64 lb), (26, .int .i64 k)] σ = exI TT (FI.of Tryd.f34 (TT.an 34)) R34_1_2 [(1, .lst lb (dgs .u32 b)), (5, .sl r 0 L L), (6, .int .i64 i), (7, .int .u32 x), (8, .int .u64 (mulI 4294967296 x b i m k c out).2), (17, .lst la (dgs .u32 a)), (18, .int .i64 la), (19, .int .i64 i), (24, .lst lb (dgs .u32 b)), (25, .int .i64 lb), (26, .int .i64 lb), (27, .bool false)] σ' ∧ RowD σ' r .u32 (mulI 4294967296 x b i m k c out).1 := by
  intro m
  induction m with
  | zero =>
    intro k c out σ hk hc ho hd hr
    have : k = lb := by omega
    subst this
    refine ⟨σ, ?_, hr⟩
    simp only [Nm.mulI]
    rw [fi34, xl34_1]
    simp only [B34_1, b34, Tryd.f34, Option.getD, fstC, sndC, bodyC, thnC, elsC]
    simp (maxSteps := 1000000) (disch := omega) [eK34_0_0, eK34_1_2, eK34_1_1, eK34_1_0]
  | succ m ih =>
    intro k c out σ hk hc ho hd hr
    have h1 := at1_lt (B := 4294967296) (by decide) hd (i + k)
    have h2 := at1_lt (B := 4294967296) (by decide) db k
    have hxy : x * at1 b k ≤ 4294967295 * 4294967295 := Nat.mul_le_mul (by omega) (by omega)
    have hstep := mul_step (B := 4294967296) (by decide) hc h1 hx h2
    obtain ⟨σ1, s1, q1, u1⟩ := RowD.st hr (i := i + k) (by omega) ((c + at1 out (i + k) + x * at1 b k) % 4294967296)
    obtain ⟨σ', k1, k2⟩ := ih (k + 1) ((c + at1 out (i + k) + x * at1 b k) / 4294967296) (out.set (i + k) ((c + at1 out (i + k) + x * at1 b k) % 4294967296)) σ1 (by omega) hstep (by simp [ho]) (Dg_set hd (Nat.mod_lt _ (by decide))) q1
    rw [Nm.mulI]
    refine ⟨σ', ?_, k2⟩
    rw [← k1]
    have hw : wrapA .i64 ((k : Int) + 1) = ((k + 1 : Nat) : Int) := by rw [wrapA_id (by omega) (by omega)]; omega
    have hw2 : wrapA .i64 ((i : Int) + (k : Int)) = ((i + k : Nat) : Int) := by rw [wrapA_id (by omega) (by omega)]; omega
    have r1 := fun σ => lp_dg (σ := σ) (k := .u32) (l := b) (i := k) (by omega)
    have r2 := hr.rd (i := i + k) (by omega)
    have c1 : wrapA .u64 ((at1 b k : Nat) : Int) = ((at1 b k : Nat) : Int) := wrap64_id (by omega) (by omega)
    have c2 : wrapA .u64 ((at1 out (i + k) : Nat) : Int) = ((at1 out (i + k) : Nat) : Int) := wrap64_id (by omega) (by omega)
    have c3 : wrapA .u64 (x : Int) = (x : Int) := wrap64_id (by omega) (by omega)
    have c4 : wrapA .u64 ((x : Int) * ((at1 b k : Nat) : Int)) = ((x * at1 b k : Nat) : Int) := by rw [← Int.natCast_mul]; exact wrap64_id (by omega) (by omega)
    generalize x * at1 b k = xy at *
    generalize at1 out (i + k) = o at *
    have c5 : wrapA .u64 ((o : Int) + (xy : Int)) = ((o + xy : Nat) : Int) := by rw [wrap64_id (by omega) (by omega)]; omega
    have c6 : wrapA .u64 ((c : Int) + ((o + xy : Nat) : Int)) = ((c + o + xy : Nat) : Int) := by rw [wrap64_id (by omega) (by omega)]; omega
    have c7 := wrap32 (c + o + xy)
    have c8 := shrU32 (c + o + xy)
    have hik : i + k < L := by omega
    have hkl : k < lb := by omega
    generalize (c + o + xy) / 4294967296 = q at *
    generalize (c + o + xy) % 4294967296 = w at *
    generalize c + o + xy = t at *
    generalize o + xy = t0 at *
    generalize i + k = ik at *
    generalize k + 1 = kk1 at *
    generalize at1 b k = y at *
    clear ih k1
    rw [fi34, xl34_1]
    simp only [B34_1, b34, Tryd.f34, Option.getD, fstC, sndC, bodyC, thnC, elsC]
    simp (maxSteps := 1000000) (disch := omega) [eK34_0_0, eK34_1_2, eK34_1_1, eK34_1_0, r1, r2, convA, c1, c2, c3, c4, c5, c6, c7, c8, hw, hw2, s1]
set_option maxHeartbeats 2000000 in
theorem l34 (a b : List Nat) (la lb : Nat) (ha : la = a.length) (hb : lb = b.length) (da : Dg 4294967296 a) (db : Dg 4294967296 b) (r L : Nat) (hL : L = la + lb) (hs : L < 100000000000) : ∀ (m i : Nat) (out : List Nat) (σ : St), i + m = la → out.length = L → Dg 4294967296 out → (∀ j, i + lb ≤ j → at1 out j = 0) → RowD σ r .u32 out →
    ∃ σ', exI TT (FI.of Tryd.f34 (TT.an 34)) K34_0 [(1, .lst lb (dgs .u32 b)), (5, .sl r 0 L L), (17, .lst la (dgs .u32 a)), (18, .int .i64 la), (19, .int .i64 i)] σ = some (NA (val 4294967296 (mulO 4294967296 a b m i out)), σ') := by
  intro m
  induction m with
  | zero =>
    intro i out σ hi ho hd hz hr
    have : i = la := by omega
    subst this
    obtain ⟨σ2, e1, _⟩ := t51 (len := L) (cap := L) (by omega) (by omega) (Nat.le_refl _) hr hd
    refine ⟨σ2, ?_⟩
    simp only [mulO]
    rw [fi34, xl34_0]
    simp only [B34_0, b34, Tryd.f34, Option.getD, fstC, sndC, bodyC, thnC, elsC]
    simp (maxSteps := 1000000) (disch := omega) [eK34_0_0, eK34_1_2, eK34_1_1, eK34_1_0]
    simp only [R34_0_0, b34, Tryd.f34, Option.getD, fstC, sndC, bodyC, thnC, elsC]
    simp (maxSteps := 1000000) (disch := omega) [eK34_0_0, eK34_1_2, eK34_1_1, eK34_1_0, e1]
  | succ m ih =>
    intro i out σ hi ho hd hz hr
    have h1 := at1_lt (B := 4294967296) (by decide) da i
    obtain ⟨σ1, k1, q1⟩ := d34 a b la lb ha hb db r L i (at1 a i) (by omega) hL hs h1 lb 0 0 out σ (by omega) (by decide) ho hd hr
    obtain ⟨s1, s2, s3, s4⟩ := mulO_step (B := 4294967296) (by decide) da db i out hd (by omega) (by rw [← hb]; exact hz)
    obtain ⟨p1, _, p3, _⟩ := mulI_spec (B := 4294967296) (by decide) h1 db i b.length 0 0 out (by decide) hd (by omega)
    rw [← hb] at s1 s2 s3 s4 p1 p3
    obtain ⟨σ2, z1, z2, _⟩ := RowD.st q1 (i := i + lb) (by rw [p1]; omega) (mulI 4294967296 (at1 a i) b i lb 0 0 out).2
    obtain ⟨σ', y1⟩ := ih (i + 1) _ σ2 (by omega) (by rw [s1]; exact ho) s2 s3 z2
    rw [mulO, ← hb]
    refine ⟨σ', ?_⟩
    rw [← y1]
    have hw : wrapA .i64 ((i : Int) + 1) = ((i + 1 : Nat) : Int) := by rw [wrapA_id (by omega) (by omega)]; omega
    have hw2 : wrapA .i64 ((i : Int) + (lb : Int)) = ((i + lb : Nat) : Int) := by rw [wrapA_id (by omega) (by omega)]; omega
    have r1 := fun σ => lp_dg (σ := σ) (k := .u32) (l := a) (i := i) (by omega)
    have c7 : wrapA .u32 (((mulI 4294967296 (at1 a i) b i lb 0 0 out).2 : Nat) : Int) = (((mulI 4294967296 (at1 a i) b i lb 0 0 out).2 : Nat) : Int) := wrap32_id (by omega) (by omega)
    have hil : i < la := by omega
    have hik : i + lb < L := by omega
    simp only [show ((0 : Nat) : Int) = 0 from rfl] at k1
    generalize mulI 4294967296 (at1 a i) b i lb 0 0 out = mm at *
    generalize at1 a i = x at *
    generalize i + lb = ilb at *
    generalize i + 1 = i1 at *
    clear ih y1
    rw [fi34] at k1 ⊢
    rw [xl34_0]
    simp only [B34_0, b34, Tryd.f34, Option.getD, fstC, sndC, bodyC, thnC, elsC]
    simp (maxSteps := 1000000) (disch := omega) [eK34_0_0, eK34_1_2, eK34_1_1, eK34_1_0, r1]
    refine k1.trans ?_
    simp only [R34_1_2, b34, Tryd.f34, Option.getD, fstC, sndC, bodyC, thnC, elsC]
    simp (maxSteps := 1000000) (disch := omega) [eK34_0_0, eK34_1_2, eK34_1_1, eK34_1_0, convA, c7, hw, hw2, z1]
theorem v34 (a b : Nat) (ha : (dg 4294967296 a).length < 10000000000) (hb : (dg 4294967296 b).length < 10000000000) : FnF TT 34 [NA a, NA b] (NA (a * b)) := by
  obtain ⟨m1, m2, m3⟩ := mul_dg (B := 4294967296) (by decide) (dg_Dg (by decide) a) (dg_Dg (by decide) b)
  rw [val_dg (by decide), val_dg (by decide)] at m3
  obtain ⟨σ1, h1⟩ := l34 (dg 4294967296 a) (dg 4294967296 b) _ _ rfl rfl (dg_Dg (by decide) a) (dg_Dg (by decide) b) 0 ((dg 4294967296 a).length + (dg 4294967296 b).length) rfl (by omega) (dg 4294967296 a).length 0 (List.replicate ((dg 4294967296 a).length + (dg 4294967296 b).length) 0) ((⟨[], 0⟩ : St).push ⟨dgs .u32 (List.replicate ((dg 4294967296 a).length + (dg 4294967296 b).length) 0), 1, false⟩) (by omega) (by simp) (Dg_zeros (by decide) _) (fun j _ => by
    unfold at1; rw [List.getD_eq_getElem?_getD, List.getElem?_replicate]; split <;> rfl) RowA.push
  rw [m3] at h1
  refine FnF.mkv fn34 rfl md34 ⟨σ1, ?_⟩ (fun _ => rfl)
  rw [← h1]
  have hm := mkU (⟨[], 0⟩ : St) ((dg 4294967296 a).length + (dg 4294967296 b).length) (by omega)
  have hw : wrapA .i64 (((dg 4294967296 a).length : Int) + ((dg 4294967296 b).length : Int)) = (((dg 4294967296 a).length + (dg 4294967296 b).length : Nat) : Int) := by rw [wrapA_id (by omega) (by omega)]; omega
  simp only [NA]
  generalize (dg 4294967296 a).length + (dg 4294967296 b).length = L at *
  generalize (dg 4294967296 b).length = lb at *
  generalize (dg 4294967296 a).length = la at *
  clear h1
  rw [fi34]
  simp (maxSteps := 1000000) (disch := omega) [eK34_0_0, eK34_1_2, eK34_1_1, eK34_1_0, hm, hw]
  rfl

/-- The number of bits. -/
def bl (x : Nat) : Nat := if x = 0 then 0 else Nat.log2 x + 1
theorem bl_zero : bl 0 = 0 := rfl
theorem bl_bounds {x : Nat} (h : 0 < x) : 0 < bl x ∧ 2 ^ (bl x - 1) ≤ x ∧ x < 2 ^ bl x := by
  have h0 : x ≠ 0 := by omega
  simp only [bl, h0, if_false, Nat.add_sub_cancel]
  exact ⟨Nat.succ_pos _, Nat.log2_self_le h0, Nat.lt_log2_self⟩
theorem bl_uniq {x k : Nat} (h1 : 2 ^ k ≤ x) (h2 : x < 2 ^ (k + 1)) : bl x = k + 1 := by
  have hx : 0 < x := Nat.lt_of_lt_of_le (Nat.two_pow_pos k) h1
  obtain ⟨a, b, c⟩ := bl_bounds hx
  have h3 : bl x - 1 < k + 1 := (Nat.pow_lt_pow_iff_right (by decide : 1 < 2)).1 (Nat.lt_of_le_of_lt b h2)
  have h4 : k < bl x := (Nat.pow_lt_pow_iff_right (by decide : 1 < 2)).1 (Nat.lt_of_le_of_lt h1 c)
  omega
theorem bl_shift {x k : Nat} (h : 2 ^ k ≤ x) : bl x = k + bl (x / 2 ^ k) := by
  have hp := Nat.two_pow_pos k
  have hq : 0 < x / 2 ^ k := Nat.div_pos h hp
  obtain ⟨a, b, c⟩ := bl_bounds hq
  obtain ⟨j, hj⟩ : ∃ j, bl (x / 2 ^ k) = j + 1 := ⟨bl (x / 2 ^ k) - 1, by omega⟩
  rw [hj] at b c ⊢
  rw [Nat.add_sub_cancel, Nat.le_div_iff_mul_le hp, Nat.mul_comm, ← Nat.pow_add] at b
  rw [Nat.div_lt_iff_lt_mul hp, Nat.mul_comm, ← Nat.pow_add] at c
  exact bl_uniq b c
theorem bl_le {x k : Nat} (h : x < 2 ^ k) : bl x ≤ k := by
  rcases Nat.eq_zero_or_pos x with rfl | hx
  · simp [bl]
  · obtain ⟨a, b, c⟩ := bl_bounds hx
    have := (Nat.pow_lt_pow_iff_right (by decide : 1 < 2)).1 (Nat.lt_of_le_of_lt b h)
    omega
theorem or_shift {c x s : Nat} (hc : c < 2 ^ s) (hs : s ≤ 32) (hx : x < 4294967296) : bitsA .or .u64 (c : Int) ((x * 2 ^ s : Nat) : Int) = some (.int .u64 ((x * 2 ^ s + c : Nat) : Int)) := by
  have hp : 2 ^ s ≤ 2 ^ 32 := Nat.pow_le_pow_right (by decide) hs
  have h1 : x * 2 ^ s ≤ 4294967295 * 2 ^ 32 := Nat.mul_le_mul (by omega) hp
  have h2 := w_or .u64 (a := c) (b := x * 2 ^ s) (by simp only [topOf]; omega) (by simp only [topOf]; omega)
  have h3 := Nat.two_pow_add_eq_or_of_lt (i := s) (b := c) hc x
  rw [Nat.mul_comm, Nat.or_comm] at h3
  rw [h3]; exact h2

noncomputable def b68 : Code := Tryd.f68.body.getD .skip
noncomputable def R68_0 : Code := b68
noncomputable def R68_1 : Code := sndC (b68)
noncomputable def R68_2 : Code := sndC (sndC (b68))
noncomputable def R68_3 : Code := sndC (sndC (sndC (b68)))
theorem e68_0 : R68_0 = .seq (fstC (b68)) R68_1 := rfl
theorem e68_1 : R68_1 = .seq (fstC (sndC (b68))) R68_2 := rfl
theorem e68_2 : R68_2 = .seq (fstC (sndC (sndC (b68)))) R68_3 := rfl
noncomputable def rOk68 (tl : Env) (c : Nat) (y : Nat) : Bool := match exec TT 50 (FI.of Tryd.f68 (TT.an 68)) [.code R68_3] ((0, .int .u32 y) :: (2, .int .i64 c) :: tl) ⟨[], 0⟩ with
  | some (v, _) => v.eqv (.int .i64 (c + bl y : Nat))
  | none => false
set_option maxRecDepth 100000 in
theorem rt68 : (([[], [(8, .bool false)]] : List Env).all fun tl => [0, 8, 16, 24].all fun c => (List.range 256).all fun y => rOk68 tl c y) = true := by kernel_rfl
theorem q68_2 (tl : Env) (ht : tl ∈ ([[], [(8, .bool false)]] : List Env)) (c y : Nat) (hc : c ∈ [0, 8, 16, 24]) (hy : y < 256) : ∃ σ1, exI TT (FI.of Tryd.f68 (TT.an 68)) [.code R68_3] ((0, .int .u32 y) :: (2, .int .i64 c) :: tl) ⟨[], 0⟩ = some (.int .i64 (c + bl y : Nat), σ1) := by
  have h := rt68
  rw [List.all_eq_true] at h
  have h := h tl ht
  rw [List.all_eq_true] at h
  have h := h c hc
  rw [List.all_eq_true] at h
  have h := h y (List.mem_range.2 hy)
  unfold rOk68 at h
  cases hx : exec TT 50 (FI.of Tryd.f68 (TT.an 68)) [.code R68_3] ((0, .int .u32 y) :: (2, .int .i64 c) :: tl) ⟨[], 0⟩ with
  | none => rw [hx] at h; cases h
  | some r =>
    rw [hx] at h
    obtain ⟨v, σ1⟩ := r
    have := eqv_sound _ _ h
    exact ⟨σ1, by rw [exI_iff.2 ⟨50, hx⟩, this]⟩

theorem q68_1 (tl : Env) (ht : tl ∈ ([[], [(4, .bool false)]] : List Env)) (c x : Nat) (hc : c ∈ [0, 16]) (hx : x < 65536) : ∃ σ1, exI TT (FI.of Tryd.f68 (TT.an 68)) [.code R68_2] ((0, .int .u32 x) :: (2, .int .i64 c) :: tl) ⟨[], 0⟩ = some (.int .i64 (c + bl x : Nat), σ1) := by
  have hs : shrA (x : Int) (min 8 IntKind.u32.bits) = ((x / 256 : Nat) : Int) := rfl
  have hc16 : c ≤ 64 := by simp at hc; omega
  have hw : wrapA .i64 ((c : Int) + 8) = ((c + 8 : Nat) : Int) := by rw [wrapA_id (by omega) (by omega)]; omega
  by_cases h : 256 ≤ x
  · have d : (256 : Int) ≤ (x : Int) := by omega
    obtain ⟨σ1, e⟩ := q68_2 [] (by simp) (c + 8) (x / 256) (by simp at hc ⊢; omega) (by omega)
    have eb := bl_shift (k := 8) (x := x) (by simpa using h)
    rw [show (2 : Nat) ^ 8 = 256 from rfl] at eb
    have : c + bl x = c + 8 + bl (x / 256) := by omega
    rw [this]
    refine ⟨σ1, ?_⟩
    rw [← e]
    skip
    generalize x / 256 = y at *
    generalize c + 8 = c1 at *
    clear e
    simp only [List.mem_cons, List.not_mem_nil, or_false] at ht
    rcases ht with rfl | rfl <;>
    (rw [fi68, e68_2, xI_seq]
     simp only [b68, Tryd.f68, Option.getD, fstC, sndC, bodyC, thnC, elsC]
     simp (maxSteps := 1000000) (disch := omega) [hs, hw, d])
  · have d : (x : Int) < (256 : Int) := by omega
    obtain ⟨σ1, e⟩ := q68_2 [(8, .bool false)] (by simp) c x (by simp at hc ⊢; omega) (by omega)
    refine ⟨σ1, ?_⟩
    rw [← e]
    clear e
    simp only [List.mem_cons, List.not_mem_nil, or_false] at ht
    rcases ht with rfl | rfl <;>
    (rw [fi68, e68_2, xI_seq]
     simp only [b68, Tryd.f68, Option.getD, fstC, sndC, bodyC, thnC, elsC]
     simp (maxSteps := 1000000) (disch := omega) [hs, hw, d])

theorem q68_0 (tl : Env) (ht : tl ∈ ([[]] : List Env)) (c x : Nat) (hc : c ∈ [0]) (hx : x < 4294967296) : ∃ σ1, exI TT (FI.of Tryd.f68 (TT.an 68)) [.code R68_1] ((0, .int .u32 x) :: (2, .int .i64 c) :: tl) ⟨[], 0⟩ = some (.int .i64 (c + bl x : Nat), σ1) := by
  have hs : shrA (x : Int) (min 16 IntKind.u32.bits) = ((x / 65536 : Nat) : Int) := rfl
  have hc16 : c ≤ 64 := by simp at hc; omega
  have hw : wrapA .i64 ((c : Int) + 16) = ((c + 16 : Nat) : Int) := by rw [wrapA_id (by omega) (by omega)]; omega
  by_cases h : 65536 ≤ x
  · have d : (65536 : Int) ≤ (x : Int) := by omega
    obtain ⟨σ1, e⟩ := q68_1 [] (by simp) (c + 16) (x / 65536) (by simp at hc ⊢; omega) (by omega)
    have eb := bl_shift (k := 16) (x := x) (by simpa using h)
    rw [show (2 : Nat) ^ 16 = 65536 from rfl] at eb
    have : c + bl x = c + 16 + bl (x / 65536) := by omega
    rw [this]
    refine ⟨σ1, ?_⟩
    rw [← e]
    obtain rfl : c = 0 := by simpa using hc
    generalize x / 65536 = y at *
    skip
    clear e
    simp only [List.mem_cons, List.not_mem_nil, or_false] at ht
    subst ht
    (rw [fi68, e68_1, xI_seq]
     simp only [b68, Tryd.f68, Option.getD, fstC, sndC, bodyC, thnC, elsC]
     simp (maxSteps := 1000000) (disch := omega) [hs, hw, d])
  · have d : (x : Int) < (65536 : Int) := by omega
    obtain ⟨σ1, e⟩ := q68_1 [(4, .bool false)] (by simp) c x (by simp at hc ⊢; omega) (by omega)
    refine ⟨σ1, ?_⟩
    rw [← e]
    clear e
    simp only [List.mem_cons, List.not_mem_nil, or_false] at ht
    subst ht
    (rw [fi68, e68_1, xI_seq]
     simp only [b68, Tryd.f68, Option.getD, fstC, sndC, bodyC, thnC, elsC]
     simp (maxSteps := 1000000) (disch := omega) [hs, hw, d])

theorem v68 (x : Nat) (hx : x < 4294967296) : FnV TT 68 [.int .u32 x] (.int .i64 (bl x : Nat)) := by
  refine FnV.mk (c := R68_0) fn68 rfl md68 ?_ (fun _ => rfl) rfl
  obtain ⟨σ1, e⟩ := q68_0 [] (by simp) 0 x (by simp) hx
  rw [Nat.zero_add] at e
  refine ⟨σ1, ?_⟩
  rw [← e]
  rw [fi68, e68_0, xI_seq]
  simp only [b68, Tryd.f68, Option.getD, fstC, sndC, bodyC, thnC, elsC]
  simp (maxSteps := 1000000) (disch := omega) []

noncomputable def b50 : Code := Tryd.f50.body.getD .skip
noncomputable def R50_0 : Code := b50
noncomputable def R50_1 : Code := sndC (b50)
noncomputable def R50_2 : Code := sndC (sndC (b50))
noncomputable def R50_3 : Code := sndC (sndC (sndC (b50)))
noncomputable def R50_4 : Code := sndC (sndC (sndC (sndC (b50))))
theorem e50_0 : R50_0 = .seq (fstC (b50)) R50_1 := rfl
theorem e50_1 : R50_1 = .seq (fstC (sndC (b50))) R50_2 := rfl
theorem e50_2 : R50_2 = .seq (fstC (sndC (sndC (b50)))) R50_3 := rfl
theorem e50_3 : R50_3 = .seq (fstC (sndC (sndC (sndC (b50))))) R50_4 := rfl
noncomputable def rOk50 (tl : Env) (c : Nat) (y : Nat) : Bool := match exec TT 50 (FI.of Tryd.f50 (TT.an 50)) [.code R50_4] ((0, .int .u64 y) :: (2, .int .i64 c) :: tl) ⟨[], 0⟩ with
  | some (v, _) => v.eqv (.int .i64 (c + bl y : Nat))
  | none => false
set_option maxRecDepth 100000 in
theorem rt50 : (([[], [(14, .bool false)]] : List Env).all fun tl => [0, 8, 16, 24, 32, 40, 48, 56].all fun c => (List.range 256).all fun y => rOk50 tl c y) = true := by kernel_rfl
theorem q50_3 (tl : Env) (ht : tl ∈ ([[], [(14, .bool false)]] : List Env)) (c y : Nat) (hc : c ∈ [0, 8, 16, 24, 32, 40, 48, 56]) (hy : y < 256) : ∃ σ1, exI TT (FI.of Tryd.f50 (TT.an 50)) [.code R50_4] ((0, .int .u64 y) :: (2, .int .i64 c) :: tl) ⟨[], 0⟩ = some (.int .i64 (c + bl y : Nat), σ1) := by
  have h := rt50
  rw [List.all_eq_true] at h
  have h := h tl ht
  rw [List.all_eq_true] at h
  have h := h c hc
  rw [List.all_eq_true] at h
  have h := h y (List.mem_range.2 hy)
  unfold rOk50 at h
  cases hx : exec TT 50 (FI.of Tryd.f50 (TT.an 50)) [.code R50_4] ((0, .int .u64 y) :: (2, .int .i64 c) :: tl) ⟨[], 0⟩ with
  | none => rw [hx] at h; cases h
  | some r =>
    rw [hx] at h
    obtain ⟨v, σ1⟩ := r
    have := eqv_sound _ _ h
    exact ⟨σ1, by rw [exI_iff.2 ⟨50, hx⟩, this]⟩

theorem q50_2 (tl : Env) (ht : tl ∈ ([[], [(8, .bool false)]] : List Env)) (c x : Nat) (hc : c ∈ [0, 16, 32, 48]) (hx : x < 65536) : ∃ σ1, exI TT (FI.of Tryd.f50 (TT.an 50)) [.code R50_3] ((0, .int .u64 x) :: (2, .int .i64 c) :: tl) ⟨[], 0⟩ = some (.int .i64 (c + bl x : Nat), σ1) := by
  have hs : shrA (x : Int) (min 8 IntKind.u64.bits) = ((x / 256 : Nat) : Int) := rfl
  have hc16 : c ≤ 64 := by simp at hc; omega
  have hw : wrapA .i64 ((c : Int) + 8) = ((c + 8 : Nat) : Int) := by rw [wrapA_id (by omega) (by omega)]; omega
  by_cases h : 256 ≤ x
  · have d : (256 : Int) ≤ (x : Int) := by omega
    obtain ⟨σ1, e⟩ := q50_3 [] (by simp) (c + 8) (x / 256) (by simp at hc ⊢; omega) (by omega)
    have eb := bl_shift (k := 8) (x := x) (by simpa using h)
    rw [show (2 : Nat) ^ 8 = 256 from rfl] at eb
    have : c + bl x = c + 8 + bl (x / 256) := by omega
    rw [this]
    refine ⟨σ1, ?_⟩
    rw [← e]
    skip
    generalize x / 256 = y at *
    generalize c + 8 = c1 at *
    clear e
    simp only [List.mem_cons, List.not_mem_nil, or_false] at ht
    rcases ht with rfl | rfl <;>
    (rw [fi50, e50_3, xI_seq]
     simp only [b50, Tryd.f50, Option.getD, fstC, sndC, bodyC, thnC, elsC]
     simp (maxSteps := 1000000) (disch := omega) [hs, hw, d])
  · have d : (x : Int) < (256 : Int) := by omega
    obtain ⟨σ1, e⟩ := q50_3 [(14, .bool false)] (by simp) c x (by simp at hc ⊢; omega) (by omega)
    refine ⟨σ1, ?_⟩
    rw [← e]
    clear e
    simp only [List.mem_cons, List.not_mem_nil, or_false] at ht
    rcases ht with rfl | rfl <;>
    (rw [fi50, e50_3, xI_seq]
     simp only [b50, Tryd.f50, Option.getD, fstC, sndC, bodyC, thnC, elsC]
     simp (maxSteps := 1000000) (disch := omega) [hs, hw, d])

theorem q50_1 (tl : Env) (ht : tl ∈ ([[], [(4, .bool false)]] : List Env)) (c x : Nat) (hc : c ∈ [0, 32]) (hx : x < 4294967296) : ∃ σ1, exI TT (FI.of Tryd.f50 (TT.an 50)) [.code R50_2] ((0, .int .u64 x) :: (2, .int .i64 c) :: tl) ⟨[], 0⟩ = some (.int .i64 (c + bl x : Nat), σ1) := by
  have hs : shrA (x : Int) (min 16 IntKind.u64.bits) = ((x / 65536 : Nat) : Int) := rfl
  have hc16 : c ≤ 64 := by simp at hc; omega
  have hw : wrapA .i64 ((c : Int) + 16) = ((c + 16 : Nat) : Int) := by rw [wrapA_id (by omega) (by omega)]; omega
  by_cases h : 65536 ≤ x
  · have d : (65536 : Int) ≤ (x : Int) := by omega
    obtain ⟨σ1, e⟩ := q50_2 [] (by simp) (c + 16) (x / 65536) (by simp at hc ⊢; omega) (by omega)
    have eb := bl_shift (k := 16) (x := x) (by simpa using h)
    rw [show (2 : Nat) ^ 16 = 65536 from rfl] at eb
    have : c + bl x = c + 16 + bl (x / 65536) := by omega
    rw [this]
    refine ⟨σ1, ?_⟩
    rw [← e]
    skip
    generalize x / 65536 = y at *
    generalize c + 16 = c1 at *
    clear e
    simp only [List.mem_cons, List.not_mem_nil, or_false] at ht
    rcases ht with rfl | rfl <;>
    (rw [fi50, e50_2, xI_seq]
     simp only [b50, Tryd.f50, Option.getD, fstC, sndC, bodyC, thnC, elsC]
     simp (maxSteps := 1000000) (disch := omega) [hs, hw, d])
  · have d : (x : Int) < (65536 : Int) := by omega
    obtain ⟨σ1, e⟩ := q50_2 [(8, .bool false)] (by simp) c x (by simp at hc ⊢; omega) (by omega)
    refine ⟨σ1, ?_⟩
    rw [← e]
    clear e
    simp only [List.mem_cons, List.not_mem_nil, or_false] at ht
    rcases ht with rfl | rfl <;>
    (rw [fi50, e50_2, xI_seq]
     simp only [b50, Tryd.f50, Option.getD, fstC, sndC, bodyC, thnC, elsC]
     simp (maxSteps := 1000000) (disch := omega) [hs, hw, d])

theorem q50_0 (tl : Env) (ht : tl ∈ ([[]] : List Env)) (c x : Nat) (hc : c ∈ [0]) (hx : x < 18446744073709551616) : ∃ σ1, exI TT (FI.of Tryd.f50 (TT.an 50)) [.code R50_1] ((0, .int .u64 x) :: (2, .int .i64 c) :: tl) ⟨[], 0⟩ = some (.int .i64 (c + bl x : Nat), σ1) := by
  have hs : shrA (x : Int) (min 32 IntKind.u64.bits) = ((x / 4294967296 : Nat) : Int) := rfl
  have hc16 : c ≤ 64 := by simp at hc; omega
  have hw : wrapA .i64 ((c : Int) + 32) = ((c + 32 : Nat) : Int) := by rw [wrapA_id (by omega) (by omega)]; omega
  by_cases h : 4294967296 ≤ x
  · have d : (4294967296 : Int) ≤ (x : Int) := by omega
    obtain ⟨σ1, e⟩ := q50_1 [] (by simp) (c + 32) (x / 4294967296) (by simp at hc ⊢; omega) (by omega)
    have eb := bl_shift (k := 32) (x := x) (by simpa using h)
    rw [show (2 : Nat) ^ 32 = 4294967296 from rfl] at eb
    have : c + bl x = c + 32 + bl (x / 4294967296) := by omega
    rw [this]
    refine ⟨σ1, ?_⟩
    rw [← e]
    obtain rfl : c = 0 := by simpa using hc
    generalize x / 4294967296 = y at *
    skip
    clear e
    simp only [List.mem_cons, List.not_mem_nil, or_false] at ht
    subst ht
    (rw [fi50, e50_1, xI_seq]
     simp only [b50, Tryd.f50, Option.getD, fstC, sndC, bodyC, thnC, elsC]
     simp (maxSteps := 1000000) (disch := omega) [hs, hw, d])
  · have d : (x : Int) < (4294967296 : Int) := by omega
    obtain ⟨σ1, e⟩ := q50_1 [(4, .bool false)] (by simp) c x (by simp at hc ⊢; omega) (by omega)
    refine ⟨σ1, ?_⟩
    rw [← e]
    clear e
    simp only [List.mem_cons, List.not_mem_nil, or_false] at ht
    subst ht
    (rw [fi50, e50_1, xI_seq]
     simp only [b50, Tryd.f50, Option.getD, fstC, sndC, bodyC, thnC, elsC]
     simp (maxSteps := 1000000) (disch := omega) [hs, hw, d])

theorem v50 (x : Nat) (hx : x < 18446744073709551616) : FnV TT 50 [.int .u64 x] (.int .i64 (bl x : Nat)) := by
  refine FnV.mk (c := R50_0) fn50 rfl md50 ?_ (fun _ => rfl) rfl
  obtain ⟨σ1, e⟩ := q50_0 [] (by simp) 0 x (by simp) hx
  rw [Nat.zero_add] at e
  refine ⟨σ1, ?_⟩
  rw [← e]
  rw [fi50, e50_0, xI_seq]
  simp only [b50, Tryd.f50, Option.getD, fstC, sndC, bodyC, thnC, elsC]
  simp (maxSteps := 1000000) (disch := omega) []

theorem v61 (x : Nat) (hx : x < 4294967296) : FnV TT 61 [.int .u32 x] (.int .i64 (32 - bl x : Nat)) := by
  have h := v68 x hx
  have hb := bl_le (x := x) (k := 32) (by omega)
  have h1 := fun σ : St => h σ [.int .u32 x] rfl
  have hw : wrapA .i64 (32 - ((bl x : Nat) : Int)) = ((32 - bl x : Nat) : Int) := by rw [wrapA_id (by omega) (by omega)]; omega
  refine FnV.mk fn61 rfl md61 ⟨⟨[], 0⟩, ?_⟩ (fun _ => rfl) rfl
  generalize 32 - bl x = z at *
  generalize bl x = y at *
  rw [fi61]
  simp (maxSteps := 1000000) (disch := omega) [h1, hw]

theorem v29 (x : Nat) (hx : x < 9223372036854775808) : FnV TT 29 [.int .i64 x] (.int .i64 ((bl x : Int) - 1)) := by
  have h := v50 x (by omega)
  have hb := bl_le (x := x) (k := 64) (by omega)
  have h1 := fun σ : St => h σ [.int .u64 x] rfl
  have hw : wrapA .i64 (((bl x : Nat) : Int) - 1) = ((bl x : Nat) : Int) - 1 := by rw [wrapA_id (by omega) (by omega)]
  have hc : wrapA .u64 (x : Int) = (x : Int) := wrap64_id (by omega) (by omega)
  refine FnV.mk fn29 rfl md29 ⟨⟨[], 0⟩, ?_⟩ (fun _ => rfl) rfl
  rw [fi29]
  simp (maxSteps := 1000000) (disch := omega) [h1, hw, hc, convA]

theorem dgs2 (a b : Nat) : dgs .u32 [a, b] = [.int .u32 a, .int .u32 b] := rfl
theorem v30 (n : Nat) (hn : n < 9223372036854775808) : FnF TT 30 [.int .i64 n] (NA n) := by
  obtain ⟨σ1, hσ⟩ : ∃ σ1, (⟨[], 0⟩ : St).push ⟨[.int .u32 (n % 4294967296 : Nat), .int .u32 (n / 4294967296 : Nat)], 1, false⟩ = σ1 := ⟨_, rfl⟩
  have hr : RowD σ1 0 .u32 [n % 4294967296, n / 4294967296] := by subst hσ; exact RowA.push
  obtain ⟨σ2, e1, _⟩ := t51 (l := [n % 4294967296, n / 4294967296]) (len := 2) (cap := 2) rfl (by decide) (Nat.le_refl _) hr (fun d hd => by simp at hd; omega)
  have hv : val 4294967296 [n % 4294967296, n / 4294967296] = n := by simp only [val]; omega
  rw [hv] at e1
  refine FnF.mkv fn30 rfl md30 ⟨σ2, ?_⟩ (fun _ => rfl)
  have hb : buildSliceA TT ⟨[], 0⟩ 41 2 [(0, .int .u32 (n % 4294967296 : Nat)), (1, .int .u32 (n / 4294967296 : Nat))] = some (.sl 0 0 2 2, σ1) := by
    subst hσ
    simp [buildSliceA, ty41, ty74, fillA, repeatCells, putCells, AV.cellsOf, allOne, AV.one]
  have c1 := wrap32 n
  have c2 := wrap32 (n / 4294967296)
  have c3 := shr32i n
  have hq : n / 4294967296 % 4294967296 = n / 4294967296 := Nat.mod_eq_of_lt (by omega)
  rw [hq] at c2
  generalize n / 4294967296 = q at *
  generalize n % 4294967296 = r at *
  clear hσ hr hv hq
  rw [fi30]
  simp (maxSteps := 1000000) (disch := omega) [c1, c2, c3, hb, e1, convA]

noncomputable def b62 : Code := Tryd.f62.body.getD .skip
noncomputable def B62_0 : Code := (bodyC (bodyC (sndC (fstC (sndC (sndC b62))))))
noncomputable def K62_0 : List It := .lp B62_0 :: .blk 0 :: .code (sndC (sndC (sndC b62))) :: []
theorem xl62_0 {fi : FI} {env : Env} {σ : St} : exI TT fi K62_0 env σ = exI TT fi (.code B62_0 :: K62_0) env σ := by unfold K62_0; exact xI_lp
noncomputable def R62_0_0 : List It := .code (sndC (sndC (sndC b62))) :: []
theorem eK62_0_0 : exitA 0 K62_0 = some R62_0_0 := rfl
set_option maxHeartbeats 2000000 in
theorem l62 (a : List Nat) (la s : Nat) (ha : la = a.length) (da : Dg 4294967296 a) (hs : s < 32) (hla : la < 100000000000) (r : Nat) : ∀ (m i c : Nat) (pre : List Nat) (σ : St), i + m = la → c < 2 ^ s → pre.length = i → RowD σ r .u32 (pre ++ List.replicate (m + 1) 0) →
    ∃ σ', exI TT (FI.of Tryd.f62 (TT.an 62)) K62_0 [(0, .lst la (dgs .u32 a)), (1, .int .i64 s), (5, .sl r 0 (la + 1) (la + 1)), (6, .int .u64 c), (13, .lst la (dgs .u32 a)), (14, .int .i64 la), (15, .int .i64 i)] σ = some (.sl r 0 (la + 1) (la + 1), σ') ∧ RowD σ' r .u32 (pre ++ upG 4294967296 s a m i c) := by
  have hP : 2 ^ s ≤ 2 ^ 31 := Nat.pow_le_pow_right (by decide) (by omega)
  intro m
  induction m with
  | zero =>
    intro i c pre σ hi hc hp hr
    obtain rfl : i = la := by omega
    obtain ⟨σ1, s1, q1, u1⟩ := RowD.st hr (i := i) (by simp; omega) c
    refine ⟨σ1, ?_, ?_⟩
    · have c7 : wrapA .u32 (c : Int) = (c : Int) := wrap32_id (by omega) (by omega)
      have hlt : i < i + 1 := by omega
      generalize i + 1 = l1 at *
      rw [fi62, xl62_0]
      simp only [B62_0, b62, Tryd.f62, Option.getD, fstC, sndC, bodyC, thnC, elsC]
      simp (maxSteps := 1000000) (disch := omega) [eK62_0_0]
      simp only [R62_0_0, b62, Tryd.f62, Option.getD, fstC, sndC, bodyC, thnC, elsC]
      simp (maxSteps := 1000000) (disch := omega) [eK62_0_0, c7, convA, s1]
    · have hset : (pre ++ List.replicate (0 + 1) 0).set i c = pre ++ upG 4294967296 s a 0 i c := by rw [← hp]; simp [upG]
      rw [← hset]; exact q1
  | succ m ih =>
    intro i c pre σ hi hc hp hr
    have h1 := at1_lt (B := 4294967296) (by decide) da i
    have hup := up_step (B := 4294967296) (s := s) (by decide) h1 hc
    obtain ⟨σ1, s1, q1, u1⟩ := RowD.st hr (i := i) (by simp; omega) ((at1 a i * 2 ^ s + c) % 4294967296)
    have hset : (pre ++ List.replicate (m + 1 + 1) 0).set i ((at1 a i * 2 ^ s + c) % 4294967296) = (pre ++ [(at1 a i * 2 ^ s + c) % 4294967296]) ++ List.replicate (m + 1) 0 := by
      rw [List.replicate_succ, ← hp]; simp
    rw [hset] at q1
    obtain ⟨σ', k1, k2⟩ := ih (i + 1) ((at1 a i * 2 ^ s + c) / 4294967296) (pre ++ [(at1 a i * 2 ^ s + c) % 4294967296]) σ1 (by omega) hup (by simp [hp]) q1
    have happ : pre ++ upG 4294967296 s a (m + 1) i c = pre ++ [(at1 a i * 2 ^ s + c) % 4294967296] ++ upG 4294967296 s a m (i + 1) ((at1 a i * 2 ^ s + c) / 4294967296) := by rw [upG]; simp
    rw [happ]
    refine ⟨σ', ?_, k2⟩
    rw [← k1]
    have hw : wrapA .i64 ((i : Int) + 1) = ((i + 1 : Nat) : Int) := by rw [wrapA_id (by omega) (by omega)]; omega
    have r1 := fun σ => lp_dg (σ := σ) (k := .u32) (l := a) (i := i) (by omega)
    have hmul : at1 a i * 2 ^ s ≤ 4294967295 * 2 ^ 31 := Nat.mul_le_mul (by omega) hP
    have c1 : wrapA .u64 ((at1 a i : Nat) : Int) = ((at1 a i : Nat) : Int) := wrap64_id (by omega) (by omega)
    have c2 : shlA ((at1 a i : Nat) : Int) (min s IntKind.u64.bits) = ((at1 a i * 2 ^ s : Nat) : Int) := by rw [Nat.min_eq_left (by simp [IntKind.bits]; omega)]; rfl
    have c3 : wrapA .u64 ((at1 a i * 2 ^ s : Nat) : Int) = ((at1 a i * 2 ^ s : Nat) : Int) := wrap64_id (by omega) (by omega)
    have c4 := or_shift hc (by omega) h1
    have c5 := wrap32 (at1 a i * 2 ^ s + c)
    have c6 := shrU32 (at1 a i * 2 ^ s + c)
    have hil : i < la := by omega
    have hil2 : i < la + 1 := by omega
    generalize (at1 a i * 2 ^ s + c) / 4294967296 = q at *
    generalize (at1 a i * 2 ^ s + c) % 4294967296 = w at *
    generalize at1 a i * 2 ^ s + c = t at *
    generalize at1 a i * 2 ^ s = t0 at *
    generalize i + 1 = i1 at *
    generalize la + 1 = l1 at *
    clear ih k1 hup hP hc
    rw [fi62, xl62_0]
    simp only [B62_0, b62, Tryd.f62, Option.getD, fstC, sndC, bodyC, thnC, elsC]
    simp (maxSteps := 1000000) (disch := omega) [eK62_0_0, r1, convA, c1, c2, c3, c4, c5, c6, hw, s1]
/-- A number times a power of 2: digits, zeros at the end. -/
theorem n62 (a : List Nat) (la s : Nat) (ha : la = a.length) (da : Dg 4294967296 a) (hs : s < 32) (hla : la < 100000000000) (σ : St) (args : List AV) (hargs : mapO (frzV σ frzDepth) args = some [.lst la (dgs .u32 a), .int .i64 s]) :
    ∃ o, callI TT 62 args σ = some (.sl σ.n 0 (la + 1) (la + 1), σ.push ⟨dgs .u32 (upG 4294967296 s a la 0 0), 1, o⟩) := by
  refine own_row fn62 rfl md62 hargs ?_
  obtain ⟨σ1, h1, h2⟩ := l62 a la s ha da hs hla 0 la 0 0 [] ((⟨[], 0⟩ : St).push ⟨dgs .u32 (List.replicate (la + 1) 0), 1, false⟩) (by omega) (Nat.two_pow_pos s) rfl RowA.push
  refine ⟨σ1, 0, ?_, by simpa using h2⟩
  rw [← h1]
  have hm := mkU (⟨[], 0⟩ : St) (la + 1) (by omega)
  have hw : wrapA .i64 ((la : Int) + 1) = ((la + 1 : Nat) : Int) := by rw [wrapA_id (by omega) (by omega)]; omega
  generalize la + 1 = l1 at *
  clear h1 h2
  rw [fi62]
  simp (maxSteps := 1000000) (disch := omega) [eK62_0_0, hm, hw]
  rfl

end Go.Proofs.YtjecbjnckbihoaaDoor
