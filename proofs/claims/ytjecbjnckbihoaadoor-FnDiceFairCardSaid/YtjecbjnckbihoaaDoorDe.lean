/- Rolls by rejection and by dice: the plain law. Nothing is claimed here; no condition. -/
import Derived.Test.YtjecbjnckbihoaaDoorDc
import Derived.Test.YtjecbjnckbihoaaDoorDd
namespace Go.Proofs.YtjecbjnckbihoaaDoor
open Go Go.Abs Go.Wd Go.Nm
set_option linter.unusedSimpArgs false
set_option linter.unusedVariables false
def cnt (i : Nat) : Option (Nat × Nat) → Nat
  | some (r, _) => if r = i then 1 else 0
  | none => 0
def opn : Option (Nat × Nat) → Nat
  | some _ => 0
  | none => 1
theorem sm_ind (i K : Nat) : ∀ n, sm (fun c => if c = i then K else 0) n = if i < n then K else 0
  | 0 => rfl
  | n + 1 => by
    rw [sm, sm_ind i K n]
    by_cases h : n = i
    · subst h; rw [if_neg (Nat.lt_irrefl _), if_pos rfl, if_pos (Nat.lt_succ_self _), Nat.zero_add]
    · rw [if_neg h, Nat.add_zero]
      by_cases h2 : i < n
      · rw [if_pos h2, if_pos (by omega)]
      · rw [if_neg h2, if_neg (by omega)]
theorem sm_prod (f : Nat → Nat) (b : Nat) : ∀ a, sm f (a * b) = sm (fun h => sm (fun l => f (h * b + l)) b) a
  | 0 => by rw [Nat.zero_mul]; rfl
  | a + 1 => by rw [Nat.succ_mul, sm_app, sm_prod f b a, sm]
/-- Strings by their first bit. -/
theorem bs_split (φ : List UInt8 → Nat) (m : Nat) : sm (fun x => φ (bsOf (m + 1) x)) (2 ^ (m + 1)) = sm (fun x => φ (48 :: bsOf m x)) (2 ^ m) + sm (fun x => φ (49 :: bsOf m x)) (2 ^ m) := by
  have hp := Nat.two_pow_pos m
  rw [show 2 ^ (m + 1) = 2 ^ m + 2 ^ m by rw [Nat.pow_succ]; omega, sm_app]
  congr 1
  · refine sm_congr _ fun x hx => ?_
    have : x / 2 ^ m % 2 = 0 := by rw [Nat.div_eq_of_lt hx]
    rw [bsOf, this]; rfl
  · refine sm_congr _ fun x hx => ?_
    have : (2 ^ m + x) / 2 ^ m % 2 = 1 := by rw [Nat.add_div_left _ hp, Nat.div_eq_of_lt hx]
    rw [bsOf, this, bsOf_high m x m (Nat.le_refl m)]; rfl
def dE (n : Nat) : Nat → Nat → Nat
  | 0, v => if v < n then 0 else 1
  | m + 1, v => if v < n then dE n m (2 * v) else 2 ^ (m + 1) + dE n m (2 * (v - n))
theorem dice_lt {n v c u : Nat} {x : UInt8} {s : List UInt8} (h : v < n) : diceG n (x :: s) v c u = diceG n s (2 * v) (2 * c + (if x = 49 then 1 else 0)) (u + 1) := by rw [diceG, if_pos h]
theorem dice_hit {n v c u : Nat} {x : UInt8} {s : List UInt8} (h : ¬ v < n) (hc : c < n) : diceG n (x :: s) v c u = some (c, u) := by rw [diceG, if_neg h, if_pos hc]
theorem dice_ge {n v c u : Nat} {x : UInt8} {s : List UInt8} (h : ¬ v < n) (hc : ¬ c < n) : diceG n (x :: s) v c u = diceG n s (2 * (v - n)) (2 * (c - n) + (if x = 49 then 1 else 0)) (u + 1) := by rw [diceG, if_neg h, if_neg hc]
theorem hit_sum (φ : Option (Nat × Nat) → Nat) {n v c u m : Nat} (h : ¬ v < n) (hc : c < n) (b : UInt8) : sm (fun y => φ (diceG n (b :: bsOf m y) v c u)) (2 ^ m) = 2 ^ m * φ (some (c, u)) := by
  rw [sm_congr (g := fun _ => φ (some (c, u))) _ (fun x _ => by rw [dice_hit h hc]), sm_const]
/-- Every number comes as often. -/
theorem dice_sum {n i : Nat} (hi : i < n) : ∀ m v u, sm (fun c => sm (fun x => cnt i (diceG n (bsOf m x) v c u)) (2 ^ m)) v = dE n m v
  | 0, v, u => by
    rw [dE]
    by_cases h : v < n
    · rw [if_pos h, sm_congr (g := fun _ => 0) v (fun c _ => by show 0 + cnt i (diceG n [] v c u) = 0; rw [diceG, if_pos h]; rfl), sm_const]; exact Nat.mul_zero v
    · rw [if_neg h, sm_congr (g := fun c => if c = i then 1 else 0) v (fun c _ => by
        show 0 + cnt i (diceG n [] v c u) = _
        rw [diceG, if_neg h, Nat.zero_add]
        by_cases hc : c < n
        · rw [if_pos hc]; rfl
        · rw [if_neg hc, if_neg (by omega)]; rfl), sm_ind, if_pos (by omega)]
  | m + 1, v, u => by
    rw [dE]
    by_cases h : v < n
    · rw [if_pos h, ← dice_sum hi m (2 * v) (u + 1), sm_two]
      refine sm_congr v fun c _ => ?_
      rw [bs_split (fun s => cnt i (diceG n s v c u))]
      congr 1
      · exact sm_congr _ fun x _ => by rw [dice_lt h]; rfl
      · exact sm_congr _ fun x _ => by rw [dice_lt h]; rfl
    · rw [if_neg h]
      have hv : v = n + (v - n) := by omega
      generalize hw : v - n = w at *
      rw [hv, sm_app, ← hv]
      congr 1
      · rw [sm_congr (g := fun c => if c = i then 2 ^ (m + 1) else 0) n (fun c hc => by
          rw [bs_split (fun s => cnt i (diceG n s v c u)), hit_sum (cnt i) h hc, hit_sum (cnt i) h hc, cnt, Nat.pow_succ]
          split <;> omega), sm_ind, if_pos hi]
      · rw [← dice_sum hi m (2 * w) (u + 1), sm_two]
        refine sm_congr w fun c _ => ?_
        rw [bs_split (fun s => cnt i (diceG n s v (n + c) u))]
        congr 1
        · exact sm_congr _ fun x _ => by rw [dice_ge h (by omega), hw, show n + c - n = c by omega]; rfl
        · exact sm_congr _ fun x _ => by rw [dice_ge h (by omega), hw, show n + c - n = c by omega]; rfl
/-- Those that are not done. -/
theorem dice_open {n : Nat} : ∀ m v u, v < 2 * n → sm (fun c => sm (fun x => opn (diceG n (bsOf m x) v c u)) (2 ^ m)) v = v * 2 ^ m % n
  | 0, v, u, hv2 => by
    rw [Nat.pow_zero, Nat.mul_one]
    by_cases h : v < n
    · rw [sm_congr (g := fun _ => 1) v (fun c _ => by show 0 + opn (diceG n [] v c u) = 1; rw [diceG, if_pos h]; rfl), sm_const, Nat.mul_one, Nat.mod_eq_of_lt h]
    · have hv : v = n + (v - n) := by omega
      have hm : v % n = v - n := by rw [Nat.mod_eq_sub_mod (by omega), Nat.mod_eq_of_lt (by omega)]
      generalize v - n = w at *
      rw [hm, hv, sm_app, ← hv, sm_congr (g := fun _ => 0) n (fun c hc => by show 0 + opn (diceG n [] v c u) = 0; rw [diceG, if_neg h, if_pos hc]; rfl), sm_const,
        sm_congr (g := fun _ => 1) w (fun c hc => by show 0 + opn (diceG n [] v (n + c) u) = 1; rw [diceG, if_neg h, if_neg (by omega)]; rfl), sm_const]
      omega
  | m + 1, v, u, hv2 => by
    by_cases h : v < n
    · rw [show v * 2 ^ (m + 1) = (2 * v) * 2 ^ m by rw [Nat.pow_succ, Nat.mul_comm (2 ^ m) 2, ← Nat.mul_assoc, Nat.mul_comm v 2], ← dice_open m (2 * v) (u + 1) (by omega), sm_two]
      refine sm_congr v fun c _ => ?_
      rw [bs_split (fun s => opn (diceG n s v c u))]
      congr 1
      · exact sm_congr _ fun x _ => by rw [dice_lt h]; rfl
      · exact sm_congr _ fun x _ => by rw [dice_lt h]; rfl
    · have hv : v = n + (v - n) := by omega
      generalize hw : v - n = w at *
      have hm : v * 2 ^ (m + 1) % n = (2 * w) * 2 ^ m % n := by
        rw [hv, Nat.add_mul, Nat.mul_add_mod, Nat.pow_succ, Nat.mul_comm (2 ^ m) 2, ← Nat.mul_assoc, Nat.mul_comm w 2]
      rw [hm]
      conv => lhs; arg 2; rw [hv]
      rw [sm_app, ← dice_open m (2 * w) (u + 1) (by omega), sm_two, sm_congr (g := fun _ => 0) n (fun c hc => by
          rw [bs_split (fun s => opn (diceG n s v c u)), hit_sum opn h hc, hit_sum opn h hc]; rfl), sm_const, Nat.mul_zero, Nat.zero_add]
      refine sm_congr w fun c _ => ?_
      rw [bs_split (fun s => opn (diceG n s v (n + c) u))]
      congr 1
      · exact sm_congr _ fun x _ => by rw [dice_ge h (by omega), hw, show n + c - n = c by omega]; rfl
      · exact sm_congr _ fun x _ => by rw [dice_ge h (by omega), hw, show n + c - n = c by omega]; rfl
theorem sm_one (f : Nat → Nat) : sm f 1 = f 0 := by show 0 + f 0 = f 0; omega
theorem dice_even {n i : Nat} (hi : i < n) (m : Nat) : sm (fun x => cnt i (diceF n (bsOf m x))) (2 ^ m) = dE n m 1 := by
  have := dice_sum hi m 1 0
  rwa [sm_one] at this
theorem dice_rest {n : Nat} (h1 : 1 ≤ n) (m : Nat) : sm (fun x => opn (diceF n (bsOf m x))) (2 ^ m) = 2 ^ m % n := by
  have := dice_open (n := n) m 1 0 (by omega)
  rwa [sm_one, Nat.one_mul] at this
/-- Strings in two parts. -/
theorem bsOf_low (b h l : Nat) : ∀ j, j ≤ b → bsOf j (h * 2 ^ b + l) = bsOf j l
  | 0, _ => rfl
  | j + 1, hj => by
    have e : 2 ^ b = 2 ^ j * (2 * 2 ^ (b - j - 1)) := by
      rw [← Nat.mul_assoc, ← Nat.pow_succ, ← Nat.pow_add]; congr 1; omega
    have e2 : (h * 2 ^ b + l) / 2 ^ j % 2 = l / 2 ^ j % 2 := by
      rw [e, show h * (2 ^ j * (2 * 2 ^ (b - j - 1))) = 2 ^ j * (2 * (h * 2 ^ (b - j - 1))) by simp only [Nat.mul_comm, Nat.mul_left_comm], Nat.mul_add_div (Nat.two_pow_pos j), Nat.mul_add_mod]
    rw [bsOf, bsOf, bsOf_low b h l j (by omega), e2]
theorem bsOf_app (b h l : Nat) (hl : l < 2 ^ b) : ∀ a, bsOf (a + b) (h * 2 ^ b + l) = bsOf a h ++ bsOf b l
  | 0 => by rw [Nat.zero_add, bsOf_low b h l b (Nat.le_refl b)]; rfl
  | a + 1 => by
    have e : (h * 2 ^ b + l) / 2 ^ (a + b) % 2 = h / 2 ^ a % 2 := by
      rw [Nat.add_comm a b, Nat.pow_add, ← Nat.div_div_eq_div_mul, Nat.mul_comm h, Nat.mul_add_div (Nat.two_pow_pos b), Nat.div_eq_of_lt hl, Nat.add_zero]
    rw [show a + 1 + b = (a + b) + 1 by omega, bsOf, bsOf, bsOf_app b h l hl a, e]; rfl
theorem numG_bs : ∀ k acc h, numG acc (bsOf k h) = acc * 2 ^ k + h % 2 ^ k
  | 0, acc, h => by rw [bsOf, numG, Nat.pow_zero, Nat.mod_one]; omega
  | k + 1, acc, h => by
    have e : (if (if h / 2 ^ k % 2 = 1 then (49 : UInt8) else 48) = 49 then 1 else 0) = h / 2 ^ k % 2 := by
      have : h / 2 ^ k % 2 = 0 ∨ h / 2 ^ k % 2 = 1 := by omega
      rcases this with h' | h' <;> rw [h'] <;> rfl
    rw [bsOf, numG, e, numG_bs k, Nat.mod_pow_succ, Nat.pow_succ, Nat.add_mul, Nat.mul_comm 2 acc, Nat.mul_assoc, Nat.mul_comm 2 (2 ^ k), Nat.mul_comm (h / 2 ^ k % 2)]
    omega
def rE (n k : Nat) : Nat → Nat → Nat
  | 0, _ => 0
  | f + 1, m => if m < k then 0 else 2 ^ (m - k) + (2 ^ k - n) * rE n k f (m - k)
theorem rej_sum {n k i : Nat} (hi : i < n) (hn : n ≤ 2 ^ k) (hk : 1 ≤ k) : ∀ f m u, m < f → sm (fun x => cnt i (rejG n k f (bsOf m x) u)) (2 ^ m) = rE n k f m
  | 0, m, u, h => by omega
  | f + 1, m, u, h => by
    rw [rE]
    by_cases hm : m < k
    · rw [if_pos hm, sm_congr (g := fun _ => 0) _ (fun x _ => by rw [rejG, if_pos (by rw [bsOf_length]; exact hm)]; rfl), sm_const, Nat.mul_zero]
    · rw [if_neg hm]
      obtain ⟨b, rfl⟩ : ∃ b, m = k + b := ⟨m - k, by omega⟩
      rw [show k + b - k = b by omega, Nat.pow_add, sm_prod]
      have inner : ∀ h, h < 2 ^ k → sm (fun l => cnt i (rejG n k (f + 1) (bsOf (k + b) (h * 2 ^ b + l)) u)) (2 ^ b) = if h < n then (if h = i then 2 ^ b else 0) else rE n k f b := by
        intro h hh
        have step : ∀ l, l < 2 ^ b → rejG n k (f + 1) (bsOf (k + b) (h * 2 ^ b + l)) u = if h < n then some (h, u + k) else rejG n k f (bsOf b l) (u + k) := fun l hl => by
          have e1 : (bsOf k h ++ bsOf b l).take k = bsOf k h := by rw [List.take_append_of_le_length (by rw [bsOf_length]; exact Nat.le_refl k), List.take_of_length_le (by rw [bsOf_length]; exact Nat.le_refl k)]
          have e2 : (bsOf k h ++ bsOf b l).drop k = bsOf b l := by rw [List.drop_append_of_le_length (by rw [bsOf_length]; exact Nat.le_refl k), List.drop_of_length_le (by rw [bsOf_length]; exact Nat.le_refl k), List.nil_append]
          have e3 : numG 0 (bsOf k h) = h := by rw [numG_bs, Nat.mod_eq_of_lt hh]; omega
          rw [bsOf_app b h l hl k, rejG, e1, e2, e3, if_neg (by rw [List.length_append, bsOf_length]; omega)]
        rw [sm_congr (g := fun l => if h < n then (if h = i then 1 else 0) else cnt i (rejG n k f (bsOf b l) (u + k))) _ (fun l hl => by
          rw [step l hl]; split <;> rfl)]
        by_cases hlt : h < n
        · rw [if_pos hlt, sm_congr (g := fun _ => if h = i then 1 else 0) _ (fun l _ => by rw [if_pos hlt]), sm_const]
          split <;> omega
        · rw [if_neg hlt, sm_congr (g := fun l => cnt i (rejG n k f (bsOf b l) (u + k))) _ (fun l _ => by rw [if_neg hlt]), rej_sum hi hn hk f b (u + k) (by omega)]
      rw [sm_congr _ inner]
      have hpk : 2 ^ k = n + (2 ^ k - n) := by omega
      generalize hd : 2 ^ k - n = d at *
      rw [hpk, sm_app]
      congr 1
      · rw [sm_congr (g := fun h => if h = i then 2 ^ b else 0) n (fun h hh => by rw [if_pos hh]), sm_ind, if_pos hi]
      · rw [sm_congr (g := fun _ => rE n k f b) d (fun h _ => by rw [if_neg (by omega)]), sm_const]
theorem rej_even {n i j : Nat} (hi : i < n) (hj : j < n) (m : Nat) : sm (fun x => cnt i (rejF n (bsOf m x))) (2 ^ m) = sm (fun x => cnt j (rejF n (bsOf m x))) (2 ^ m) := by
  by_cases h1 : n = 1
  · obtain rfl : i = j := by omega
    rfl
  · have hk := kOf_pos (n := n) (by omega)
    have hp := kOf_pow n (by omega)
    have key : ∀ i, i < n → sm (fun x => cnt i (rejF n (bsOf m x))) (2 ^ m) = rE n (kOf n) (m + 1) m := fun i hi => by
      rw [← rej_sum hi hp hk (m + 1) m 0 (Nat.lt_succ_self m)]
      exact sm_congr _ fun x _ => by rw [rejF, bsOf_length]
    rw [key i hi, key j hj]
/-- What is drawn is a number below n; no more bits are used than there are. -/
theorem dice_range {n : Nat} : ∀ (s : List UInt8) (v c u a b : Nat), diceG n s v c u = some (a, b) → a < n ∧ b ≤ u + s.length
  | [], v, c, u, a, b, h => by
    rw [diceG] at h
    split at h
    · cases h
    · split at h
      · cases h; exact ⟨by assumption, Nat.le_refl _⟩
      · cases h
  | x :: s, v, c, u, a, b, h => by
    rw [diceG] at h
    split at h
    · have := dice_range s _ _ _ a b h
      simp only [List.length_cons]; omega
    · split at h
      · cases h; exact ⟨by assumption, by omega⟩
      · have := dice_range s _ _ _ a b h
        simp only [List.length_cons]; omega
theorem rej_range {n k : Nat} : ∀ (f : Nat) (s : List UInt8) (u a b : Nat), rejG n k f s u = some (a, b) → a < n ∧ b ≤ u + s.length
  | 0, s, u, a, b, h => by cases h
  | f + 1, s, u, a, b, h => by
    rw [rejG] at h
    split at h
    · cases h
    · split at h
      · cases h; exact ⟨by assumption, by omega⟩
      · have := rej_range f _ _ a b h
        rw [List.length_drop] at this
        omega
theorem cnt_le (i : Nat) (g : Nat → Option (Nat × Nat)) : ∀ x, sm (fun y => cnt i (g y)) x ≤ x
  | 0 => Nat.le_refl _
  | x + 1 => by
    have := cnt_le i g x
    have h2 : cnt i (g x) ≤ 1 := by
      cases g x with
      | none => exact Nat.zero_le _
      | some q => obtain ⟨a, b⟩ := q; rw [cnt]; split <;> omega
    rw [sm]; omega
theorem opn_le (g : Nat → Option (Nat × Nat)) : ∀ x, sm (fun y => opn (g y)) x ≤ x
  | 0 => Nat.le_refl _
  | x + 1 => by
    have := opn_le g x
    have h2 : opn (g x) ≤ 1 := by cases g x <;> simp [opn]
    rw [sm]; omega
set_option maxRecDepth 100000 in
theorem tab_cost : ((List.range 33).all fun n => Nat.beq n 0 || (fits (diceQ n) && (fits (rejQ n) && decide (cmpR (diceQ n) (rejQ n) ≤ 0)))) = true := by decide +kernel
theorem cost_le {n : Nat} (h1 : 1 ≤ n) (h2 : n ≤ 32) : fits (diceQ n) = true ∧ fits (rejQ n) = true ∧ cmpR (diceQ n) (rejQ n) ≤ 0 := by
  have h := List.all_eq_true.1 tab_cost n (List.mem_range.2 (by omega))
  simp only [Bool.or_eq_true, Bool.and_eq_true, decide_eq_true_eq] at h
  rcases h with h | h
  · exact absurd (Nat.eq_of_beq_eq_true h) (by omega)
  · exact h
end Go.Proofs.YtjecbjnckbihoaaDoor
