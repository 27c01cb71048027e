/- Plain facts: partial sums, the greatest chance, squares. Nothing is claimed here; no condition. -/
import Derived.Test.YtkglajdhlmmlfaaGreatPp
namespace Go.Proofs.YtkglajdhlmmlfaaGreat
open Go Go.Abs Go.Nm
set_option linter.unusedSimpArgs false
set_option linter.unusedVariables false
theorem ov_fitsK {D K : Nat} {x : Rat} (h : Ov D x) (hD : 0 < D) (h1 : x ≤ (K : Rat)) (hb : D ≤ 1000000000000000000) (hk : K * D ≤ 1000000000000000000) : fits x = true := by
  have hx := h
  obtain ⟨m, e⟩ := h.as
  have hm : m ≤ K * D := by
    have hp := natCast_pos hD
    have e2 : mkRat (m : Int) D = (m : Rat) / (D : Rat) := by rw [Rat.mkRat_eq_div]; rfl
    rw [e2] at e
    rw [e, Rat.div_def] at h1
    have : (m : Rat) ≤ ((K * D : Nat) : Rat) := by
      have h3 : (m : Rat) * (D : Rat)⁻¹ * (D : Rat) ≤ (K : Rat) * (D : Rat) := Rat.mul_le_mul_of_nonneg_right h1 (Rat.le_of_lt hp)
      have h4 : (D : Rat)⁻¹ * (D : Rat) = 1 := Rat.inv_mul_cancel _ (by grind)
      rw [Rat.mul_assoc, h4, Rat.mul_one] at h3
      rw [Rat.natCast_mul]
      exact h3
    exact Rat.natCast_le_natCast.1 this
  have := low_num false m D (by omega)
  obtain ⟨e1, e2, _⟩ := this
  rw [e]
  refine fits_iff.2 ⟨?_, ?_⟩
  · show nm (mkRat (sg false m) D) ≤ _
    rw [nm, e1]; exact Nat.le_trans (Nat.div_le_self _ _) (by omega)
  · show (mkRat (sg false m) D).den ≤ _
    rw [e2]; exact Nat.le_trans (Nat.div_le_self _ _) hb
theorem sumI_mono {f : Nat → Rat} (h : ∀ i, 0 ≤ f i) (a : Nat) : ∀ m : Nat, sumI f a ≤ sumI f (a + m)
  | 0 => Rat.le_refl
  | m + 1 => by
    have h1 := sumI_mono h a m
    have h2 := h (a + m)
    rw [show a + (m + 1) = a + m + 1 by omega, sumI]; grind
theorem sumI_term {f : Nat → Rat} (h : ∀ i, 0 ≤ f i) {n i : Nat} (hi : i < n) : f i ≤ sumI f n := by
  have h1 := sumI_mono h (i + 1) (n - (i + 1))
  rw [show i + 1 + (n - (i + 1)) = n by omega, sumI] at h1
  have h2 : 0 ≤ sumI f i := sumI_nonneg fun j _ => h j
  grind
theorem exT_ok {N D : Nat} {p : List Rat} (h : ChL N D p) (hD : 0 < D) (l : List Nat) (k : Nat) (x0 : Nat) (hx : x0 ≤ p.length) : Ov D (exT l p k x0) ∧ exT l p k x0 ≤ 1 := by
  have hn : ∀ x, 0 ≤ (if appR x l 0 0 = k then atL p x else 0) := fun x => by
    split
    · exact (h.at hD x).2
    · exact Rat.le_refl
  refine ⟨Ov.sumI _ fun x _ => ?_, ?_⟩
  · split
    · exact (h.at hD x).1
    · exact Ov.zero D
  · have h1 := sumI_le (f := fun x => if appR x l 0 0 = k then atL p x else 0) (g := atL p) (n := x0) fun x _ => by
      split
      · exact Rat.le_refl
      · exact (h.at hD x).2
    have h2 := sumI_mono (f := atL p) (fun i => (h.at hD i).2) x0 (p.length - x0)
    rw [show x0 + (p.length - x0) = p.length by omega, h.len, h.sum] at h2
    exact Rat.le_trans h1 h2
theorem great_fold : ∀ (r : List Rat) (m : Rat), ∃ G, (G = m ∨ G ∈ r) ∧ (frL r).foldl gmax (m.num, (m.den : Int)) = (G.num, (G.den : Int)) ∧ m ≤ G ∧ ∀ x ∈ r, x ≤ G
  | [], m => ⟨m, .inl rfl, rfl, Rat.le_refl, fun _ h => absurd h (by simp)⟩
  | x :: r, m => by
    have hq : ∀ q : Rat, rq (q.num, (q.den : Int)) = q := fun q => mk_self
    have e : gmax (m.num, (m.den : Int)) (x.num, (x.den : Int)) = if m < x then (x.num, (x.den : Int)) else (m.num, (m.den : Int)) := by
      unfold gmax
      rw [hq, hq]
      by_cases h : m < x
      · rw [if_pos h, if_pos (cmpR_pos.2 h)]
      · rw [if_neg h, if_neg (fun hh => h (cmpR_pos.1 hh))]
    have e2 : frL (x :: r) = (x.num, (x.den : Int)) :: frL r := rfl
    rw [e2, List.foldl_cons, e]
    by_cases h : m < x
    · rw [if_pos h]
      obtain ⟨G, g1, g2, g3, g4⟩ := great_fold r x
      refine ⟨G, .inr ?_, g2, Rat.le_trans (Rat.le_of_lt h) g3, fun y hy => ?_⟩
      · rcases g1 with rfl | g1 <;> simp [*]
      · rcases List.mem_cons.1 hy with rfl | hy
        · exact g3
        · exact g4 y hy
    · rw [if_neg h]
      obtain ⟨G, g1, g2, g3, g4⟩ := great_fold r m
      refine ⟨G, ?_, g2, g3, fun y hy => ?_⟩
      · rcases g1 with rfl | g1 <;> simp [*]
      · rcases List.mem_cons.1 hy with rfl | hy
        · exact Rat.le_trans (Rat.not_lt.1 h) g3
        · exact g4 y hy
/-- The greatest of some chances. -/
theorem great_of {p : List Rat} (h : 0 < p.length) : ∃ G, G ∈ p ∧ greatF (frL p) = (G.num, (G.den : Int)) ∧ ∀ x ∈ p, x ≤ G := by
  cases p with
  | nil => simp at h
  | cons m r =>
    obtain ⟨G, g1, g2, g3, g4⟩ := great_fold r m
    refine ⟨G, by rcases g1 with rfl | g1 <;> simp [*], ?_, fun x hx => ?_⟩
    · show ((frL (m :: r)).drop 1).foldl gmax ((frL (m :: r)).getD 0 (0, 1)) = _
      exact g2
    · rcases List.mem_cons.1 hx with rfl | hx
      · exact g3
      · exact g4 x hx
theorem col_eq {N D : Nat} {p : List Rat} (h : ChL N D p) : colQ p = sumI (fun x => atL p x * atL p x) N := by rw [colQ, h.len]; rfl
theorem col_ok {N D : Nat} {p : List Rat} (h : ChL N D p) (hD : 0 < D) : Ov (D * D) (colQ p) ∧ colQ p ≤ 1 ∧ 0 ≤ colQ p := by
  rw [col_eq h]
  have h1 : ∀ i, i < N → atL p i ≤ 1 := fun i hi => by
    have hi' : i < p.length := by rw [h.len]; exact hi
    rw [atL_of hi']
    exact h.le1 hD _ (List.getElem_mem hi')
  refine ⟨Ov.sumI _ fun i _ => (h.at hD i).1.mul (h.at hD i).1, ?_, sumI_nonneg fun i _ => Rat.mul_nonneg (h.at hD i).2 (h.at hD i).2⟩
  have h2 := sumI_le (f := fun x => atL p x * atL p x) (g := atL p) (n := N) fun i hi => by
    have := Rat.mul_le_mul_of_nonneg_left (h1 i hi) (h.at hD i).2
    rw [Rat.mul_one] at this; exact this
  rw [h.sum] at h2
  exact h2
theorem great_col {N D : Nat} {p : List Rat} (h : ChL N D p) (hD : 0 < D) {G : Rat} (hG : G ∈ p) : G * G ≤ colQ p := by
  obtain ⟨i, hi, rfl⟩ := List.getElem_of_mem hG
  rw [col_eq h, ← atL_of hi]
  exact sumI_term (f := fun x => atL p x * atL p x) (fun i => Rat.mul_nonneg (h.at hD i).2 (h.at hD i).2) (by rw [← h.len]; exact hi)
theorem av_ok {N D n nb : Nat} {p : List Rat} (h : ChL N D p) (hD : 0 < D) (hb : D ≤ 64) (hn : n ≤ 2) (h6 : n * nb ≤ 6) : ∃ A : Nat, 0 < A ∧ A ≤ 32768 ∧ Ov A (avQ n nb p) ∧ avQ n nb p ≤ 1 ∧ 0 ≤ avQ n nb p := by
  have hP := Nat.two_pow_pos (n * nb)
  have hP8 : 2 ^ (n * nb) ≤ 2 ^ 6 := Nat.pow_le_pow_right (by decide) h6
  have hp := Nat.two_pow_pos n
  have hp3 : 2 ^ n ≤ 2 ^ 2 := Nat.pow_le_pow_right (by decide) hn
  have hu := fun j => un_ok h hD (rowsT nb j n)
  simp only [rowsT_len] at hu
  have h1 := (av_between (n := n) (nb := nb) (p := p) (a := 0) (b := 1) fun j _ => ⟨(hu j).2.2, (hu j).2.1⟩)
  have hs := Ov.sumI (2 ^ (n * nb)) fun j (_ : j < 2 ^ (n * nb)) => (hu j).1
  have hav : Ov (D * 2 ^ n * 2 * 2 ^ (n * nb)) (avQ n nb p) := by
    have := hs.mul (Ov.mk 1 (2 ^ (n * nb)))
    rw [av_eq, Rat.div_def]
    rw [Rat.mkRat_eq_div, Rat.div_def, show (((1 : Nat) : Int) : Rat) = 1 from rfl, Rat.one_mul] at this
    exact this
  have hm : D * 2 ^ n ≤ 64 * 2 ^ 2 := Nat.mul_le_mul hb hp3
  have hm2 : D * 2 ^ n * 2 * 2 ^ (n * nb) ≤ (64 * 2 ^ 2 * 2) * 2 ^ 6 := Nat.mul_le_mul (by omega) hP8
  exact ⟨_, Nat.mul_pos (Nat.mul_pos (Nat.mul_pos hD hp) (by decide)) hP, by omega, hav, h1.2, h1.1⟩
/-- Cells that are filled one after another. -/
def fil (v : Int × Int) (i m : Nat) : List (Int × Int) := List.replicate i v ++ List.replicate m (0, 0)
theorem fil_len (v : Int × Int) (i m : Nat) : (fil v i m).length = i + m := by simp [fil]
theorem fil_set (v : Int × Int) (i m : Nat) : (fil v i (m + 1)).set i v = fil v (i + 1) m := by
  have e : ∀ (i : Nat) (t : List (Int × Int)), List.replicate i v ++ v :: t = List.replicate (i + 1) v ++ t := fun i t => by
    induction i with
    | zero => rfl
    | succ i ih => rw [List.replicate_succ, List.cons_append, ih, List.replicate_succ (n := i + 1), List.cons_append]
  rw [fil, fil, ← e, List.replicate_succ, List.set_append_right _ _ (by simp)]
  simp
theorem fil_zero (v : Int × Int) (m : Nat) : repeatCells [.int .i64 0, .int .i64 0] m = flat FC (fil v 0 m) := by
  induction m with
  | zero => rfl
  | succ m ih => rw [repeatCells, ih]; rfl
theorem fil_all (v : Int × Int) (m : Nat) : fil v m 0 = List.replicate m v := by simp [fil]
theorem ex_zero (l : List Nat) (p : List Rat) : frL (exL l p 0) = fil (0, 1) (2 ^ l.length) 0 := by
  have : exL l p 0 = List.replicate (2 ^ l.length) 0 := by
    apply List.ext_getElem?
    intro j
    by_cases hj : j < 2 ^ l.length
    · rw [exL_get l p _ hj]
      simp [hj]; rfl
    · rw [List.getElem?_eq_none (by rw [exL_len]; omega), List.getElem?_eq_none (by rw [List.length_replicate]; omega)]
  rw [this, fil_all, frL, List.map_replicate]; rfl
theorem ev_fil {M : Nat} (h : M = 2 ∨ M = 4) : frL (evQ M) = fil (1, M) M 0 := by
  rcases h with rfl | rfl <;> decide +kernel

end Go.Proofs.YtkglajdhlmmlfaaGreat
