/- Rolls of a tree: the plain law. Nothing is claimed here; no condition. -/
import Derived.Test.YthkdbkjkccogfaaDoorKc
namespace Go.Proofs.YthkdbkjkccogfaaDoor
open Go Go.Abs Go.Wd
set_option linter.unusedSimpArgs false
set_option linter.unusedVariables false
/-- The last bits of a number as a text. -/
def bsOf : Nat → Nat → List UInt8
  | 0, _ => []
  | n + 1, v => (if v / 2 ^ n % 2 = 1 then 49 else 48) :: bsOf n v
theorem bsOf_length : ∀ n v, (bsOf n v).length = n
  | 0, _ => rfl
  | n + 1, v => by simp [bsOf, bsOf_length n v]
theorem bsOf_bits : ∀ n v, (bsOf n v).all isBit = true
  | 0, _ => rfl
  | n + 1, v => by
    rw [bsOf, List.all_cons, bsOf_bits n v, Bool.and_true]
    split <;> rfl
theorem bsOf_high (m n : Nat) : ∀ j, j ≤ m → bsOf j (2 ^ m + n) = bsOf j n
  | 0, _ => rfl
  | j + 1, h => by
    have e : 2 ^ m = 2 ^ j * (2 * 2 ^ (m - j - 1)) := by
      rw [← Nat.mul_assoc, ← Nat.pow_succ, ← Nat.pow_add]; congr 1; omega
    have e2 : (2 ^ m + n) / 2 ^ j % 2 = n / 2 ^ j % 2 := by
      rw [e, Nat.mul_add_div (Nat.two_pow_pos j), Nat.mul_add_mod]
    rw [bsOf, bsOf, bsOf_high m n j (by omega), e2]
def val (G : Nat → Nat → Nat) : Option (Nat × Nat) → Nat
  | some (f, d) => G f d
  | none => 0
def Lf (K : Nat) (ws : List Nat) (d : Nat) : Nat := (lvl K ws d).length
def gf (K : Nat) (ws : List Nat) (G : Nat → Nat → Nat) (d v : Nat) : Nat := G ((lvl K ws d).getD v 0) d
theorem lvls_drop {K : Nat} {ws : List Nat} {d : Nat} (h : d ≤ K) : (lvls K ws (K + 1)).drop d = lvl K ws d :: (lvls K ws (K + 1)).drop (d + 1) := by
  have hl : d < (lvls K ws (K + 1)).length := by rw [lvls_len]; omega
  rw [List.drop_eq_getElem_cons hl]
  have := lvls_get K ws (m := K + 1) (d := d) (by omega)
  rw [List.getElem?_eq_getElem hl] at this
  rw [Option.some.inj this]
/-- All strings of m bits from a node of level K - m. -/
theorem roll_sum {K : Nat} {ws : List Nat} (hT : Tree K (Lf K ws) (nodes (Lf K ws))) (G : Nat → Nat → Nat) : ∀ m, m ≤ K → ∀ v, v < nodes (Lf K ws) (K - m) → sm (fun n => val G (rollF ((lvls K ws (K + 1)).drop (K - m)) (K - m) v (bsOf m n))) (2 ^ m) = reach K (Lf K ws) (gf K ws G) m v
  | 0, _, v, hv => by
    rw [Nat.sub_zero] at hv ⊢
    rw [hT.last] at hv
    rw [lvls_drop (Nat.le_refl K)]
    show 0 + val G (rollF (lvl K ws K :: _) K v (bsOf 0 0)) = gf K ws G K v
    rw [rollF_hit hv, val, gf]; omega
  | m + 1, hm, v, hv => by
    have hn := hT.next (K - (m + 1)) (by omega)
    have hd : K - (m + 1) + 1 = K - m := by omega
    rw [hd] at hn
    have hdr := lvls_drop (K := K) (ws := ws) (d := K - (m + 1)) (by omega)
    rw [hd] at hdr
    rw [hdr, reach]
    by_cases hvl : v < Lf K ws (K - (m + 1))
    · rw [if_pos hvl, sm_congr (g := fun _ => gf K ws G (K - (m + 1)) v) _ (fun n _ => by rw [rollF_hit hvl, val, gf]), sm_const]
    · rw [if_neg hvl]
      have e2 : 2 ^ (m + 1) = 2 ^ m + 2 ^ m := by rw [Nat.pow_succ]; omega
      have hp := Nat.two_pow_pos m
      have i0 := roll_sum hT G m (by omega) (2 * (v - Lf K ws (K - (m + 1)))) (by omega)
      have i1 := roll_sum hT G m (by omega) (2 * (v - Lf K ws (K - (m + 1))) + 1) (by omega)
      rw [e2, sm_app, ← i0, ← i1]
      congr 1
      · refine sm_congr _ fun n hn' => ?_
        have : n / 2 ^ m % 2 = 0 := by rw [Nat.div_eq_of_lt hn']
        rw [bsOf, this, rollF_next hvl, hd]
        rfl
      · refine sm_congr _ fun n hn' => ?_
        have : (2 ^ m + n) / 2 ^ m % 2 = 1 := by
          rw [Nat.add_div_left _ hp, Nat.div_eq_of_lt hn']
        rw [bsOf, this, rollF_next hvl, hd, bsOf_high m n m (Nat.le_refl m)]
        rfl
theorem lvF_mem (e : Nat) : ∀ (ws : List Nat) (i x : Nat), x ∈ lvF e ws i → x < i + ws.length
  | [], _, _, h => by cases h
  | w :: r, i, x, h => by
    rw [lvF] at h
    split at h
    · rcases List.mem_cons.1 h with rfl | h
      · simp
      · have := lvF_mem e r (i + 1) x h; simp only [List.length_cons]; omega
    · have := lvF_mem e r (i + 1) x h; simp only [List.length_cons]; omega
/-- A roll ends. -/
theorem roll_some {K : Nat} {ws : List Nat} (hT : Tree K (Lf K ws) (nodes (Lf K ws))) : ∀ m, m ≤ K → ∀ v, v < nodes (Lf K ws) (K - m) → ∀ s : List UInt8, s.length = m → ∃ f d, rollF ((lvls K ws (K + 1)).drop (K - m)) (K - m) v s = some (f, d) ∧ d ≤ K ∧ f < ws.length
  | m, hm, v, hv, s, hs => by
    have hdr := lvls_drop (K := K) (ws := ws) (d := K - m) (by omega)
    rw [hdr]
    by_cases hvl : v < (lvl K ws (K - m)).length
    · refine ⟨_, _, rollF_hit hvl, by omega, ?_⟩
      have : (lvl K ws (K - m)).getD v 0 ∈ lvl K ws (K - m) := by
        rw [List.getD_eq_getElem?_getD, List.getElem?_eq_getElem hvl]; exact List.getElem_mem hvl
      have := lvF_mem _ ws 0 _ this
      omega
    · match m, s, hs with
      | 0, s, hs =>
        rw [Nat.sub_zero] at hv hvl
        rw [hT.last] at hv
        exact absurd hv hvl
      | m + 1, x :: s', hs =>
        have hn := hT.next (K - (m + 1)) (by omega)
        have hd : K - (m + 1) + 1 = K - m := by omega
        rw [hd] at hn
        rw [rollF_next hvl, hd]
        have hvl2 : ¬ v < Lf K ws (K - (m + 1)) := hvl
        exact roll_some hT m (by omega) _ (by show 2 * (v - Lf K ws (K - (m + 1))) + _ < _; split <;> omega) s' (by simpa using hs)
theorem sm_first (f : Nat → Nat) (n : Nat) : sm f (n + 1) = f 0 + sm (fun i => f (i + 1)) n := by
  rw [Nat.add_comm n 1, sm_app]
  show 0 + f 0 + _ = _
  rw [Nat.zero_add]
  congr 1
  exact sm_congr n fun i _ => by rw [Nat.add_comm]
theorem sm_zero : ∀ n, sm (fun _ => 0) n = 0
  | 0 => rfl
  | n + 1 => by rw [sm, sm_zero n]
/-- A face is at most once in a level. -/
theorem lv_count (e φ : Nat) : ∀ (ws : List Nat) (i : Nat), sm (fun v => if (lvF e ws i).getD v 0 = φ then 1 else 0) (lvF e ws i).length = if i ≤ φ ∧ φ < i + ws.length then modN (shrN (ws.getD (φ - i) 0) e) 2 else 0
  | [], i => by
    rw [if_neg (by simp only [List.length_nil]; omega)]; rfl
  | w :: r, i => by
    have ih := lv_count e φ r (i + 1)
    have hm2 : modN (shrN w e) 2 < 2 := Nat.mod_lt _ (by decide)
    by_cases hb : modN (shrN w e) 2 = 1
    · rw [lvF, if_pos hb, List.length_cons, sm_first]
      simp only [List.getD_cons_zero, List.getD_cons_succ]
      rw [ih]
      by_cases h1 : i = φ
      · subst h1
        rw [if_pos rfl, if_neg (by omega), if_pos (by simp), Nat.sub_self, List.getD_cons_zero, hb]
      · rw [if_neg h1]
        by_cases h2 : i + 1 ≤ φ ∧ φ < i + 1 + r.length
        · rw [if_pos h2, if_pos (by simp only [List.length_cons]; omega), show φ - i = (φ - (i + 1)) + 1 by omega, List.getD_cons_succ]; omega
        · rw [if_neg h2, if_neg (by simp only [List.length_cons]; omega)]
    · have hz : modN (shrN w e) 2 = 0 := by omega
      rw [lvF, if_neg hb, ih]
      by_cases h1 : i = φ
      · subst h1
        rw [if_neg (by omega), if_pos (by simp), Nat.sub_self, List.getD_cons_zero, hz]
      · by_cases h2 : i + 1 ≤ φ ∧ φ < i + 1 + r.length
        · rw [if_pos h2, if_pos (by simp only [List.length_cons]; omega), show φ - i = (φ - (i + 1)) + 1 by omega, List.getD_cons_succ]
        · rw [if_neg h2, if_neg (by simp only [List.length_cons]; omega)]
/-- How many faces a level has. -/
def bsm (e : Nat) : List Nat → Nat
  | [] => 0
  | w :: r => w / 2 ^ e % 2 + bsm e r
theorem lv_len (e : Nat) : ∀ (ws : List Nat) (i : Nat), (lvF e ws i).length = bsm e ws
  | [], _ => rfl
  | w :: r, i => by
    have hm2 : modN (shrN w e) 2 < 2 := Nat.mod_lt _ (by decide)
    have e1 : modN (shrN w e) 2 = w / 2 ^ e % 2 := rfl
    rw [lvF, bsm]
    split
    · rw [List.length_cons, lv_len e r (i + 1)]; omega
    · rw [lv_len e r (i + 1)]; omega
theorem bsm_sum (k : Nat) : ∀ ws : List Nat, (∀ w ∈ ws, w < 2 ^ k) → sm (fun j => bsm j ws * 2 ^ j) k = ws.sum
  | [], _ => by
    rw [sm_congr (g := fun _ => 0) k (fun i _ => by rw [bsm, Nat.zero_mul]), sm_zero]; rfl
  | w :: r, h => by
    rw [sm_congr (g := fun j => w / 2 ^ j % 2 * 2 ^ j + bsm j r * 2 ^ j) k (fun i _ => by rw [bsm, Nat.add_mul]), sm_add, dig_sum, bsm_sum k r (fun x hx => h x (by simp [hx])), List.sum_cons, Nat.mod_eq_of_lt (h w (by simp))]
theorem sm_rev (f : Nat → Nat) : ∀ n, sm f (n + 1) = sm (fun j => f (n - j)) (n + 1)
  | 0 => rfl
  | n + 1 => by
    rw [sm_first (fun j => f (n + 1 - j)) (n + 1)]
    rw [sm_congr (f := fun i => f (n + 1 - (i + 1))) (g := fun j => f (n - j)) (n + 1) (fun i _ => by congr 1; omega), ← sm_rev f n]
    show sm f (n + 1) + f (n + 1) = _
    rw [Nat.sub_zero]; omega
theorem dya_tree {K : Nat} {ws : List Nat} (h : Dya K ws) : Tree K (Lf K ws) (nodes (Lf K ws)) := by
  apply tree_of
  rw [sm_rev, sm_congr (g := fun j => bsm j ws * 2 ^ j) (K + 1) (fun j hj => by
    rw [Lf, lvl, lv_len, show K - (K - j) = j by omega]), bsm_sum (K + 1) ws (fun w hw => by
    have := mem_sum hw
    rw [h.1] at this
    have hp := Nat.pow_lt_pow_right (a := 2) (by decide) (show K < K + 1 by omega)
    have e : pw K = 2 ^ K := rfl
    omega)]
  exact h.1
/-- Each face comes as often as it weighs. -/
theorem roll_count {K : Nat} {ws : List Nat} (h : Dya K ws) {φ : Nat} (hφ : φ < ws.length) : sm (fun n => val (fun f _ => if f = φ then 1 else 0) (rollF (lvls K ws (K + 1)) 0 0 (bsOf K n))) (2 ^ K) = ws.getD φ 0 := by
  have hT := dya_tree h
  have h1 := roll_sum hT (fun f _ => if f = φ then 1 else 0) K (Nat.le_refl K) 0 (by rw [Nat.sub_self, hT.root]; decide)
  rw [Nat.sub_self, List.drop_zero, reach_root hT, total_sm K _ _ K (Nat.le_refl K)] at h1
  rw [h1, sm_congr (g := fun j => ws.getD φ 0 / 2 ^ j % 2 * 2 ^ j) (K + 1) (fun j hj => by
    have := lv_count j φ ws 0
    rw [if_pos ⟨Nat.zero_le _, by omega⟩, Nat.sub_zero] at this
    have e : K - (K - j) = j := by omega
    show 2 ^ j * sm (fun v => if (lvF (K - (K - j)) ws 0).getD v 0 = φ then 1 else 0) (lvF (K - (K - j)) ws 0).length = _
    rw [e, this, Nat.mul_comm]; rfl), dig_sum, Nat.mod_eq_of_lt]
  have hw : ws.getD φ 0 ∈ ws := by rw [List.getD_eq_getElem?_getD, List.getElem?_eq_getElem hφ]; exact List.getElem_mem hφ
  have := mem_sum hw
  rw [h.1] at this
  have hp := Nat.pow_lt_pow_right (a := 2) (by decide) (show K < K + 1 by omega)
  have e : pw K = 2 ^ K := rfl
  omega
def usedN (K : Nat) (ws : List Nat) : Nat → Nat
  | 0 => 0
  | d + 1 => usedN K ws d + d * (lvl K ws d).length * 2 ^ (K - d)
/-- What all rolls use. -/
theorem roll_used {K : Nat} {ws : List Nat} (h : Dya K ws) : sm (fun n => val (fun _ d => d) (rollF (lvls K ws (K + 1)) 0 0 (bsOf K n))) (2 ^ K) = usedN K ws (K + 1) := by
  have hT := dya_tree h
  have h1 := roll_sum hT (fun _ d => d) K (Nat.le_refl K) 0 (by rw [Nat.sub_self, hT.root]; decide)
  rw [Nat.sub_self, List.drop_zero, reach_root hT, total_sm K _ _ K (Nat.le_refl K)] at h1
  have h2 : ∀ m, usedN K ws m = sm (fun d => d * (lvl K ws d).length * 2 ^ (K - d)) m := by
    intro m
    induction m with
    | zero => rfl
    | succ m ih => rw [usedN, sm, ih]
  rw [h1, h2, sm_rev (fun d => d * (lvl K ws d).length * 2 ^ (K - d))]
  refine sm_congr _ fun j hj => ?_
  show 2 ^ j * sm (fun _ => K - j) (Lf K ws (K - j)) = _
  rw [sm_const, show K - (K - j) = j by omega, Lf, Nat.mul_comm, Nat.mul_comm (K - j)]
end Go.Proofs.YthkdbkjkccogfaaDoor
