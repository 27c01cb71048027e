/- Plain law of orders; contracts: sources of choices, drawn orders, the laws' helpers. Nothing is claimed here; no condition. -/
import Derived.Test.YtaniaeefijgaiaaDk
import Derived.Test.YtaniaeefijgaiaaDj
import Derived.Test.YtaniaeefijgaiaaDh
import Derived.Test.YtaniaeefijgaiaaDd
import Derived.Test.YtaniaeefijgaiaaWx
namespace Go.Proofs.Ytaniaeefijgaiaa
open Go Go.Abs
set_option linter.unusedSimpArgs false
set_option linter.unusedVariables false
/-! ### Orders: plain law of shuffles, ranks and cycles -/
theorem iota_rises : ∀ (m : Nat) (k : Int), (iotaF k m).Pairwise (· < ·) ∧ ∀ x ∈ iotaF k m, k ≤ x ∧ x < k + m
  | 0, k => by simp [iotaF]
  | m + 1, k => by
    obtain ⟨h1, h2⟩ := iota_rises m (k + 1)
    refine ⟨List.pairwise_cons.2 ⟨fun x hx => ?_, h1⟩, fun x hx => ?_⟩
    · have := h2 x hx; omega
    · rcases List.mem_cons.1 hx with rfl | hx
      · omega
      · have := h2 x hx; omega
theorem isO_perm {l : List Int} {n : Nat} (h1 : 1 ≤ n) (h2 : n ≤ 12) (h : l.Perm (iotaF 0 n)) : isO l = true := by
  obtain ⟨r1, r2⟩ := iota_rises n 0
  have hl : l.length = n := by rw [h.length_eq, iotaF_length]
  have hn : l.Nodup := h.nodup_iff.2 (r1.imp fun h => by omega)
  simp only [isO, Bool.and_eq_true, inR_iff, decide_eq_true_eq, hl]
  refine ⟨by omega, ?_, hn⟩
  rw [allR, List.all_eq_true]
  intro x hx
  have := r2 x (h.mem_iff.1 hx)
  rw [inR_iff]; omega
theorem perm_erase {l : List Int} {i : Nat} (h : i < l.length) : (l[i] :: l.eraseIdx i).Perm l := by
  have e : l = l.take i ++ l[i] :: l.drop (i + 1) := by rw [← List.drop_eq_getElem_cons h, List.take_append_drop]
  rw [List.eraseIdx_eq_take_drop_succ]
  refine List.perm_middle.symm.trans ?_
  rw [← e]
theorem ordAt_perm : ∀ (m : Nat) (left : List Int) (rank : Nat) (out : List Int), left.length = m → rank < fac m → (ordAt m left rank out).Perm (out ++ left)
  | 0, left, rank, out, h, _ => by
    obtain rfl := List.length_eq_zero_iff.1 h
    simp [ordAt]
  | m + 1, left, rank, out, h, hr => by
    have hk : rank / fac m < m + 1 := by rw [Nat.div_lt_iff_lt_mul (fac_pos m)]; exact hr
    have ih := ordAt_perm m (left.eraseIdx (rank / fac m)) (rank % fac m) (out ++ [left.getD (rank / fac m) 0]) (by rw [List.length_eraseIdx]; split <;> omega) (Nat.mod_lt _ (fac_pos m))
    rw [ordAt]
    refine ih.trans ?_
    rw [List.append_assoc]
    refine List.Perm.append_left out ?_
    have hk2 : rank / fac m < left.length := by omega
    have := perm_erase hk2
    rw [List.getD_eq_getElem?_getD, List.getElem?_eq_getElem hk2]
    exact this
/-! Choices -/
def choS (l : List Int) : Nat → List Int → List Int
  | 0, _ => []
  | m + 1, now => ixF (at0 l (m + 1)) now 0 :: choS l m (swp now (m + 1) (ixF (at0 l (m + 1)) now 0).toNat)
theorem cho_S (l : List Int) : ∀ (m : Nat) (now out : List Int), cho l m now out = out ++ choS l m now
  | 0, _, _ => by simp [cho, choS]
  | m + 1, now, out => by rw [cho, cho_S l m, choS]; simp
theorem ixF_val (x : Int) : ∀ (l : List Int) (k : Nat), x ∈ l → ∃ j : Nat, ixF x l k = (k + j : Nat) ∧ j < l.length ∧ at0 l j = x
  | [], _, h => by simp at h
  | y :: r, k, h => by
    simp only [ixF]
    by_cases hxy : x = y
    · exact ⟨0, by rw [if_pos hxy]; simp, by simp, by simp [at0, hxy]⟩
    · rw [if_neg hxy]
      obtain ⟨j, h1, h2, h3⟩ := ixF_val x r (k + 1) ((List.mem_cons.1 h).resolve_left hxy)
      exact ⟨j + 1, by rw [h1]; congr 1; omega, by simpa using h2, by simpa [at0] using h3⟩
theorem ext_at0 {a b : List Int} (hl : a.length = b.length) (h : ∀ j, j < a.length → at0 a j = at0 b j) : a = b := by
  apply List.ext_getElem hl
  intro i h1 h2
  have := h i h1
  simpa [at0, List.getD_eq_getElem?_getD, h1, h2] using this
theorem head_same {a b : List Int} (hp : a.Perm b) (h : ∀ j, 0 < j → j < b.length → at0 a j = at0 b j) : a = b := by
  have hl := hp.length_eq
  cases a with
  | nil => cases b with
    | nil => rfl
    | cons => simp at hl
  | cons x t => cases b with
    | nil => simp at hl
    | cons y s =>
      obtain rfl : t = s := ext_at0 (by simpa using hl) fun j hj => by
        have := h (j + 1) (by omega) (by simp at hl ⊢; omega)
        simpa [at0] using this
      have := hp.count_eq x
      simp only [List.count_cons, beq_self_eq_true, if_true] at this
      by_cases e : y == x
      · rw [beq_iff_eq] at e; rw [e]
      · simp only [e] at this; simp at this
theorem shuf_cho (l : List Int) (hn : l.Nodup) : ∀ (m k : Nat) (now : List Int), m + k + 1 = l.length → now.Perm l → (∀ j, m < j → j < l.length → at0 now j = at0 l j) → shuf 0 l.length (choS l m now) k now = some l
  | 0, k, now, hk, hp, ha => by
    rw [choS, shuf, head_same hp ha]
  | m + 1, k, now, hk, hp, ha => by
    have hl := hp.length_eq
    obtain ⟨j, h1, h2, h3⟩ := ixF_val (at0 l (m + 1)) now 0 (hp.mem_iff.2 (at0_mem (by omega)))
    rw [Nat.zero_add] at h1
    have hj : j ≤ m + 1 := by
      refine Nat.le_of_not_lt fun hj => ?_
      have := ha j (by omega) (by omega)
      rw [h3] at this
      have := nodup_at hn (by omega) (by omega) this
      omega
    rw [choS, h1, shuf, if_pos (inR_iff.2 (by omega)), Int.toNat_natCast, show l.length - 1 - k = m + 1 by omega]
    refine shuf_cho l hn m (k + 1) _ (by omega) ((swp_perm (by omega) h2).trans hp) fun i hi hi2 => ?_
    show at0 ((now.set (m + 1) (at0 now j)).set j (at0 now (m + 1))) i = at0 l i
    rw [at0_set _ _ _ _ (by simp; omega), at0_set _ _ _ _ (by omega)]
    by_cases e1 : i = j
    · have : j = m + 1 := by omega
      subst this
      rw [if_pos e1, h3, e1]
    · rw [if_neg e1]
      by_cases e2 : i = m + 1
      · rw [if_pos e2, h3, e2]
      · rw [if_neg e2]; exact ha i (by omega) (by omega)
/-! Ranks -/
theorem sorted_at {x : Int} : ∀ (s : List Int), s.Pairwise (· < ·) → x ∈ s → s[s.countP (fun y => decide (y < x))]? = some x
  | [], _, h => by simp at h
  | y :: r, hp, h => by
    obtain ⟨h1, h2⟩ := List.pairwise_cons.1 hp
    rcases List.mem_cons.1 h with rfl | h
    · have : (x :: r).countP (fun y => decide (y < x)) = 0 := by
        rw [List.countP_eq_zero]
        intro a ha
        rcases List.mem_cons.1 ha with rfl | ha
        · simp
        · have := h1 a ha; simp; omega
      rw [this]; rfl
    · have hy := h1 x h
      rw [List.countP_cons_of_pos (by simpa using hy), List.getElem?_cons_succ]
      exact sorted_at r h2 h
theorem lessC_count (l : List Int) (x : Int) : ∀ (m k : Nat), k + m = l.length → lessC l x m k = (l.drop k).countP (fun y => decide (y < x))
  | 0, k, h => by rw [List.drop_eq_nil_of_le (by omega)]; rfl
  | m + 1, k, h => by
    rw [lessC, lessC_count l x m (k + 1) (by omega), List.drop_eq_getElem_cons (show k < l.length by omega), List.countP_cons]
    have : at0 l k = l[k] := by simp [at0, List.getD_eq_getElem?_getD, show k < l.length by omega]
    rw [this, Nat.add_comm]
    by_cases hx : l[k] < x <;> simp [hx]
theorem rank_ord (l : List Int) : ∀ (m i : Nat) (left out : List Int), i + m = l.length → left.Pairwise (· < ·) → left.Perm (l.drop i) → ordAt m left (rankG l m i) out = out ++ l.drop i
  | 0, i, left, out, h, _, _ => by rw [List.drop_eq_nil_of_le (by omega)]; simp [ordAt]
  | m + 1, i, left, out, h, hs, hp => by
    have hi : i < l.length := by omega
    have hx : at0 l i = l[i] := by simp [at0, List.getD_eq_getElem?_getD, hi]
    have hd := List.drop_eq_getElem_cons hi
    rw [ordAt, rankG]
    have hlt := rankG_lt l m (i + 1)
    have e1 : (lessC l (at0 l i) m (i + 1) * fac m + rankG l m (i + 1)) / fac m = lessC l (at0 l i) m (i + 1) := by
      rw [Nat.mul_comm, Nat.mul_add_div (fac_pos m), Nat.div_eq_of_lt hlt, Nat.add_zero]
    have e2 : (lessC l (at0 l i) m (i + 1) * fac m + rankG l m (i + 1)) % fac m = rankG l m (i + 1) := by
      rw [Nat.mul_comm, Nat.mul_add_mod, Nat.mod_eq_of_lt hlt]
    rw [e1, e2]
    have hc : lessC l (at0 l i) m (i + 1) = left.countP (fun y => decide (y < at0 l i)) := by
      rw [lessC_count l _ m (i + 1) (by omega), hp.countP_eq, hd, List.countP_cons_of_neg (by simp [hx])]
    have hg := sorted_at left hs (x := at0 l i) (hp.mem_iff.2 (by rw [hd, hx]; exact List.mem_cons_self))
    rw [← hc] at hg
    generalize lessC l (at0 l i) m (i + 1) = q at *
    obtain ⟨hq, hq2⟩ := List.getElem?_eq_some_iff.1 hg
    rw [List.getD_eq_getElem?_getD, hg, Option.getD_some]
    have hp2 := (perm_erase hq).trans hp
    rw [hq2, hd, hx] at hp2
    rw [rank_ord l m (i + 1) _ _ (by omega) (hs.sublist (List.eraseIdx_sublist _ _)) hp2.cons_inv, hx, hd]
    simp
/-! Cycles -/
/-- A cycle as it is told: each number leads to the next one, the last one to the first, which is the least. -/
def CycOk (l c : List Int) : Prop := ∀ k, k < c.length → 0 ≤ at0 c k ∧ at0 c k < l.length ∧ at0 l (at0 c k).toNat = at0 c ((k + 1) % c.length) ∧ at0 c 0 ≤ at0 c k
theorem atB_set (dn : List Bool) (a b : Nat) (h : a < dn.length) : atB (dn.set a true) b = (decide (b = a) || atB dn b) := by
  simp only [atB, List.getD_eq_getElem?_getD, List.getElem?_set]
  by_cases h1 : b = a
  · subst h1; simp [h]
  · have : ¬ a = b := fun e => h1 e.symm
    simp [h1, this]
theorem at0_app1 {c : List Int} {x : Int} {k : Nat} (h : k < c.length) : at0 (c ++ [x]) k = at0 c k := by simp [at0, List.getD_eq_getElem?_getD, List.getElem?_append_left h]
theorem at0_app2 {c : List Int} {x : Int} : at0 (c ++ [x]) c.length = x := by simp [at0, List.getD_eq_getElem?_getD]
/-- On the way: what was done before (D), the numbers from i on. -/
structure Way (l : List Int) (i : Nat) (D : Nat → Prop) (k : Nat) (dn : List Bool) (cy : List Int) : Prop where
  len : dn.length = l.length
  kin : k < l.length
  dnI : ∀ j, atB dn j = true ↔ D j ∨ ((j : Nat) : Int) ∈ cy
  cin : ∀ a, a < cy.length → 0 ≤ at0 cy a ∧ at0 cy a < l.length ∧ ¬ D (at0 cy a).toNat ∧ (i : Int) ≤ at0 cy a
  nxt : ∀ a, a + 1 < cy.length → at0 l (at0 cy a).toNat = at0 cy (a + 1)
  nod : cy.Nodup
  lst : (cy = [] ∧ k = i) ∨ (cy ≠ [] ∧ at0 cy 0 = i ∧ at0 l (at0 cy (cy.length - 1)).toNat = k)
theorem wlk_ok (l : List Int) (hn : l.Nodup) (hr : ∀ x ∈ l, 0 ≤ x ∧ x < l.length) (i : Nat) (D : Nat → Prop) (hDi : ¬ D i) (hlow : ∀ j, j < i → D j) (hDl : ∀ j, D j → j < l.length) (hpre : ∀ j, j < l.length → D (at0 l j).toNat → D j) :
    ∀ (m k : Nat) (dn : List Bool) (cy : List Int), dn.count false < m → Way l i D k dn cy →
      let r := wlk l m k dn cy
      r.1.length = l.length ∧ CycOk l r.2 ∧ 1 ≤ r.2.length ∧ (∀ j, atB r.1 j = true ↔ D j ∨ ((j : Nat) : Int) ∈ r.2) ∧ (∀ j, j < l.length → atB r.1 (at0 l j).toNat = true → atB r.1 j = true) ∧ r.2.length + r.1.count false = cy.length + dn.count false ∧ at0 r.2 0 = i
  | 0, _, _, _, h, _ => absurd h (by omega)
  | m + 1, k, dn, cy, hm, hw => by
    simp only [wlk]
    cases hk : atB dn k with
    | false =>
      rw [if_neg (by simp)]
      have hc := cnt_set dn k (by rw [hw.len]; exact hw.kin) hk
      have hkD : ¬ (D k ∨ ((k : Nat) : Int) ∈ cy) := fun h => by rw [(hw.dnI k).2 h] at hk; cases hk
      have hki : i ≤ k := Nat.le_of_not_lt fun h => hkD (.inl (hlow k h))
      have hx := hr (at0 l k) (at0_mem hw.kin)
      have ih := wlk_ok l hn hr i D hDi hlow hDl hpre m (at0 l k).toNat (dn.set k true) (cy ++ [(k : Int)]) (by omega) {
        len := by simp [hw.len]
        kin := by omega
        dnI := fun j => by
          rw [atB_set _ _ _ (by rw [hw.len]; exact hw.kin), Bool.or_eq_true, decide_eq_true_eq, hw.dnI j]
          simp only [List.mem_append, List.mem_singleton]
          constructor
          · rintro (rfl | h | h)
            · exact .inr (.inr rfl)
            · exact .inl h
            · exact .inr (.inl h)
          · rintro (h | h | h)
            · exact .inr (.inl h)
            · exact .inr (.inr h)
            · exact .inl (by omega)
        cin := fun a ha => by
          simp only [List.length_append, List.length_singleton] at ha
          by_cases e : a < cy.length
          · rw [at0_app1 e]; exact hw.cin a e
          · obtain rfl : a = cy.length := by omega
            rw [at0_app2]
            have := hw.kin
            exact ⟨by omega, by omega, fun h => hkD (.inl (by simpa using h)), by omega⟩
        nxt := fun a ha => by
          simp only [List.length_append, List.length_singleton] at ha
          by_cases e : a + 1 < cy.length
          · rw [at0_app1 e, at0_app1 (by omega)]; exact hw.nxt a e
          · have e1 : a + 1 = cy.length := by omega
            rw [at0_app1 (by omega), e1, at0_app2]
            rcases hw.lst with ⟨h1, _⟩ | ⟨_, _, h3⟩
            · rw [h1] at e1; simp at e1
            · rw [← e1] at h3; exact h3
        nod := List.nodup_append.2 ⟨hw.nod, by simp, fun a ha b hb => by
          simp at hb; subst hb; exact fun e => hkD (.inr (e ▸ ha))⟩
        lst := .inr ⟨by simp, by
          rcases hw.lst with ⟨h1, h2⟩ | ⟨h1, h2, _⟩
          · rw [h1, h2]; rfl
          · rw [at0_app1 (List.length_pos_iff.2 h1)]; exact h2, by
          rw [show (cy ++ [(k : Int)]).length - 1 = cy.length by simp, at0_app2, Int.toNat_natCast]
          omega⟩ }
      obtain ⟨a1, a2, a3, a4, a5, a6, a7⟩ := ih
      exact ⟨a1, a2, a3, a4, a5, by rw [a6]; simp; omega, a7⟩
    | true =>
      rw [if_pos rfl]
      have hk2 := (hw.dnI k).1 hk
      rcases hw.lst with ⟨h1, h2⟩ | ⟨h1, h2, h3⟩
      · subst h2
        rcases hk2 with h | h
        · exact absurd h hDi
        · rw [h1] at h; simp at h
      · have hpos := List.length_pos_iff.2 h1
        obtain ⟨l1, l2, l3, l4⟩ := hw.cin (cy.length - 1) (by omega)
        have hkc : ((k : Nat) : Int) ∈ cy := by
          rcases hk2 with h | h
          · exact absurd (hpre (at0 cy (cy.length - 1)).toNat (by omega) (by rw [h3]; simpa using h)) l3
          · exact h
        have inj : ∀ a b, a < l.length → b < l.length → at0 l a = at0 l b → a = b := fun a b ha hb h => nodup_at hn ha hb h
        obtain ⟨b, hb⟩ := List.mem_iff_getElem?.1 hkc
        have hbl := (List.getElem?_eq_some_iff.1 hb).1
        have hbk := at0_of hb
        have hb0 : b = 0 := by
          refine Nat.eq_zero_of_not_pos fun h0 => ?_
          have n1 := hw.nxt (b - 1) (by omega)
          rw [show b - 1 + 1 = b by omega, hbk, ← h3] at n1
          obtain ⟨c1, c2, _⟩ := hw.cin (b - 1) (by omega)
          have e1 := inj _ _ (by omega) (by omega) n1
          have e2 := nodup_at hw.nod (i := b - 1) (j := cy.length - 1) (by omega) (by omega) (by omega)
          omega
        subst hb0
        have hall : ∀ a, a < cy.length → at0 l (at0 cy a).toNat = at0 cy ((a + 1) % cy.length) := fun a ha => by
          by_cases e : a + 1 < cy.length
          · rw [Nat.mod_eq_of_lt e]; exact hw.nxt a e
          · have e1 : a + 1 = cy.length := by omega
            rw [e1, Nat.mod_self, show a = cy.length - 1 by omega, h3, hbk]
        refine ⟨hw.len, fun a ha => ?_, hpos, hw.dnI, fun j hj hd => (hw.dnI j).2 ?_, rfl, h2⟩
        · obtain ⟨c1, c2, _, c4⟩ := hw.cin a ha
          exact ⟨c1, c2, hall a ha, by show at0 cy 0 ≤ at0 cy a; omega⟩
        · rcases (hw.dnI _).1 hd with h | h
          · exact .inl (hpre j hj h)
          · refine .inr ?_
            obtain ⟨a, ha⟩ := List.mem_iff_getElem?.1 h
            have hal := (List.getElem?_eq_some_iff.1 ha).1
            have hak := at0_of ha
            have hx := hr (at0 l j) (at0_mem hj)
            -- the number before it on the cycle
            have key : ∀ p, p < cy.length → (p + 1) % cy.length = a → ((j : Nat) : Int) ∈ cy := fun p hp e => by
              have e1 := hall p hp
              rw [e, hak] at e1
              obtain ⟨c1, c2, _⟩ := hw.cin p hp
              have e2 := inj _ _ (by omega) hj (by omega : at0 l (at0 cy p).toNat = at0 l j)
              have e3 : ((j : Nat) : Int) = at0 cy p := by omega
              rw [e3]; exact at0_mem hp
            by_cases ha0 : a = 0
            · exact key (cy.length - 1) (by omega) (by rw [show cy.length - 1 + 1 = cy.length by omega, Nat.mod_self, ha0])
            · exact key (a - 1) (by omega) (by rw [show a - 1 + 1 = a by omega, Nat.mod_eq_of_lt hal])
theorem totL_app (a : List (List Int)) (c : List Int) : totL (a ++ [c]) = totL a + c.length := by
  induction a with
  | nil => simp [totL]
  | cons x r ih => simp only [List.cons_append, totL, ih]; omega
theorem cycG_ok (l : List Int) (hn : l.Nodup) (hr : ∀ x ∈ l, 0 ≤ x ∧ x < l.length) : ∀ (m i : Nat) (dn : List Bool) (out : List (List Int)), i + m = l.length → dn.length = l.length → (∀ j, j < i → atB dn j = true) →
    (∀ j, j < l.length → atB dn (at0 l j).toNat = true → atB dn j = true) → (∀ c ∈ out, CycOk l c ∧ 1 ≤ c.length) → totL out + dn.count false = l.length →
    (∀ c ∈ cycG l l.length m i dn out, CycOk l c ∧ 1 ≤ c.length) ∧ totL (cycG l l.length m i dn out) = l.length
  | 0, i, dn, out, hi, hd, hlow, _, ho, ht => by
    rw [cycG]
    refine ⟨ho, ?_⟩
    have : dn.count false = 0 := by
      rw [List.count_eq_zero]
      intro hm
      obtain ⟨j, hj⟩ := List.mem_iff_getElem?.1 hm
      have hjl := (List.getElem?_eq_some_iff.1 hj).1
      have := hlow j (by omega)
      rw [atB, List.getD_eq_getElem?_getD, hj] at this
      cases this
    omega
  | m + 1, i, dn, out, hi, hd, hlow, hpre, ho, ht => by
    rw [cycG]
    cases hk : atB dn i with
    | true =>
      rw [if_pos rfl]
      exact cycG_ok l hn hr m (i + 1) dn out (by omega) hd (fun j hj => by
        by_cases e : j = i
        · rw [e]; exact hk
        · exact hlow j (by omega)) hpre ho ht
    | false =>
      rw [if_neg (by simp)]
      have hcl : dn.count false ≤ l.length := by rw [← hd]; exact List.count_le_length
      have hD : ∀ j, atB dn j = true → j < l.length := fun j hj => by
        refine Nat.lt_of_not_le fun h => ?_
        rw [atB, List.getD_eq_getElem?_getD, List.getElem?_eq_none (by omega)] at hj
        cases hj
      obtain ⟨a1, a2, a3, a4, a5, a6, a7⟩ := wlk_ok l hn hr i (fun j => atB dn j = true) (by simp [hk]) hlow hD hpre (l.length + 1) i dn [] (by omega) {
        len := hd, kin := by omega, dnI := fun j => by simp, cin := fun a ha => by simp at ha, nxt := fun a ha => by simp at ha, nod := by simp, lst := .inl ⟨rfl, rfl⟩ }
      refine cycG_ok l hn hr m (i + 1) _ _ (by omega) a1 (fun j hj => (a4 j).2 ?_) a5 (fun c hc => ?_) ?_
      · by_cases e : j = i
        · refine .inr ?_
          rw [e, ← a7]; exact at0_mem a3
        · exact .inl (hlow j (by omega))
      · rcases List.mem_append.1 hc with hc | hc
        · exact ho c hc
        · simp at hc; subst hc; exact ⟨a2, a3⟩
      · rw [totL_app]
        simp only [List.length_nil] at a6
        omega
theorem cyc_ok {l : List Int} (h : isO l = true) : (∀ c ∈ cyc l, CycOk l c ∧ 1 ≤ c.length) ∧ totL (cyc l) = l.length := by
  simp only [isO, Bool.and_eq_true, decide_eq_true_eq] at h
  have hr : ∀ x ∈ l, 0 ≤ x ∧ x < l.length := fun x hx => by
    have := inR_iff.1 (List.all_eq_true.1 h.2.1 x hx); omega
  have hrep : ∀ j, atB (List.replicate l.length false) j = true → False := fun j hj => by
    rw [atB, List.getD_eq_getElem?_getD, List.getElem?_replicate] at hj
    split at hj <;> cases hj
  refine cycG_ok l h.2.2 hr l.length 0 _ [] (by omega) (by simp) (fun j hj => absurd hj (by omega)) (fun j _ hd => (hrep _ hd).elim) (by simp) ?_
  simp [totL]
/-! Choices that are less: one cycle (all of them for few things) -/
def satOk (n : Nat) (cs : List Int) : Bool := match shuf 1 n cs 0 (iotaF 0 n) with
  | some r => isO r && Nat.beq r.length n && Nat.beq (cyc r).length 1
  | none => false
def satAll (n : Nat) : Nat → List Int → Bool
  | 0, cs => satOk n cs
  | m + 1, cs => (iotaF 0 (m + 1)).all fun c => satAll n m (cs ++ [c])
theorem sat7 : satAll 7 6 [] = true := by decide +kernel
theorem sat6 : satAll 6 5 [] = true := by decide +kernel
theorem sat5 : satAll 5 4 [] = true := by decide +kernel
theorem sat4 : satAll 4 3 [] = true := by decide +kernel
theorem sat3 : satAll 3 2 [] = true := by decide +kernel
theorem sat2 : satAll 2 1 [] = true := by decide +kernel
theorem sat1 : satAll 1 0 [] = true := by decide +kernel
/-- Choices of which each is less than its place. -/
def Less : Nat → List Int → Prop
  | _, [] => True
  | m, c :: r => (0 ≤ c ∧ c < m) ∧ Less (m - 1) r
theorem sat_of (n : Nat) : ∀ (m : Nat) (cs r : List Int), r.length = m → Less m r → satAll n m cs = true → satOk n (cs ++ r) = true
  | 0, cs, r, h, _, hs => by
    obtain rfl := List.length_eq_zero_iff.1 h
    rw [List.append_nil]; exact hs
  | m + 1, cs, [], h, _, _ => by simp at h
  | m + 1, cs, c :: r, h, hl, hs => by
    rw [satAll, List.all_eq_true] at hs
    have h1 := hs c (List.mem_of_getElem? (i := c.toNat) (by rw [iotaF_get _ _ _ (by have := hl.1; omega)]; congr 1; have := hl.1; omega))
    have := sat_of n m (cs ++ [c]) r (by simpa using h) hl.2 h1
    simpa using this
theorem sat_all {n : Nat} (h1 : 1 ≤ n) (h7 : n ≤ 7) {cs : List Int} (hl : cs.length = n - 1) (hc : Less (n - 1) cs) : satOk n cs = true := by
  have key : ∀ m, satAll (m + 1) m [] = true → m = n - 1 → satOk n cs = true := fun m h e => by
    have h2 := sat_of (m + 1) m [] cs (by omega) (by rw [e]; exact hc) h
    rw [show n = m + 1 by omega]; simpa using h2
  have : n = 1 ∨ n = 2 ∨ n = 3 ∨ n = 4 ∨ n = 5 ∨ n = 6 ∨ n = 7 := by omega
  rcases this with rfl | rfl | rfl | rfl | rfl | rfl | rfl
  · exact key 0 sat1 rfl
  · exact key 1 sat2 rfl
  · exact key 2 sat3 rfl
  · exact key 3 sat4 rfl
  · exact key 4 sat5 rfl
  · exact key 5 sat6 rfl
  · exact key 6 sat7 rfl

theorem Rws.at {σ : St} : ∀ {bs : List Nat} {L : List (List Int)} {i : Nat} {b : Nat} {l : List Int}, Rws σ bs L → bs[i]? = some b → L[i]? = some l → Row σ b l
  | [], _, _, _, _, _, h, _ => by simp at h
  | _ :: _, [], _, _, _, h, _, _ => h.elim
  | _ :: bs, _ :: L, 0, b, l, h, h1, h2 => by simp at h1 h2; subst h1; subst h2; exact h.1
  | _ :: bs, _ :: L, i + 1, b, l, h, h1, h2 => by simp only [List.getElem?_cons_succ] at h1 h2; exact Rws.at h.2 h1 h2
theorem choS_length (l : List Int) : ∀ (m : Nat) (now : List Int), (choS l m now).length = m
  | 0, _ => rfl
  | m + 1, now => by simp [choS, choS_length l m]

theorem wrap_u (z : Int) : ∃ m : Nat, wrapA .u64 z = m ∧ m < 18446744073709551616 := by
  refine ⟨(wrapA .u64 z).toNat, ?_, ?_⟩ <;> (rw [wrapA_eq]; simp [IntKind.wrap, IntKind.bits, IntKind.signed]; omega)
/-- A source of choices in the heap. -/
def SRC (σ : St) (s : Nat) (l : List Nat) (k m : Nat) : Prop := s < σ.n ∧ σ.get s = some ⟨[.lst l.length (byts l), .int .i64 k, .int .u64 m], 3, false⟩ ∧ m < 18446744073709551616
theorem SRC.set {σ : St} {s : Nat} {l : List Nat} {k m k' m' : Nat} (h : SRC σ s l k m) (hm : m' < 18446744073709551616) : ∃ σ1 σ2, storeCellsA σ s 1 [.int .i64 (k' : Int)] = some σ1 ∧ cellsAt σ1 (.ptr s 2) 1 = some [.int .u64 m] ∧ storeCellsA σ1 s 2 [.int .u64 (m' : Int)] = some σ2 ∧ SRC σ2 s l k' m' ∧ σ2.n = σ.n ∧ ∀ c, c ≠ s → σ2.get c = σ.get c := by
  obtain ⟨h1, h2, _⟩ := h
  have e1 : (σ.set s ⟨[.lst l.length (byts l), .int .i64 k', .int .u64 m], 3, false⟩).get s = some ⟨[.lst l.length (byts l), .int .i64 k', .int .u64 m], 3, false⟩ := get_set_eq h2
  refine ⟨σ.set s ⟨[.lst l.length (byts l), .int .i64 k', .int .u64 m], 3, false⟩, (σ.set s ⟨[.lst l.length (byts l), .int .i64 k', .int .u64 m], 3, false⟩).set s ⟨[.lst l.length (byts l), .int .i64 k', .int .u64 m'], 3, false⟩, ?_, ?_, ?_, ⟨h1, get_set_eq e1, hm⟩, rfl, fun c hc => ?_⟩
  · simp [storeCellsA, h2, allOne, AV.one, putN, overN]
  · simp [cellsAt, e1, getCells, takeN, dropN]
  · simp [storeCellsA, e1, allOne, AV.one, putN, overN]
  · rw [get_set_ne (fun h => hc h.symm), get_set_ne (fun h => hc h.symm)]
theorem SRC.c0 {σ : St} {s : Nat} {l : List Nat} {k m : Nat} (h : SRC σ s l k m) : cellsAt σ (.ptr s 0) 1 = some [.lst l.length (byts l)] := by simp [cellsAt, h.2.1, getCells, takeN, dropN]
theorem SRC.c1 {σ : St} {s : Nat} {l : List Nat} {k m : Nat} (h : SRC σ s l k m) : cellsAt σ (.ptr s 1) 1 = some [.int .i64 k] := by simp [cellsAt, h.2.1, getCells, takeN, dropN]
theorem SRC.c2 {σ : St} {s : Nat} {l : List Nat} {k m : Nat} (h : SRC σ s l k m) : cellsAt σ (.ptr s 2) 1 = some [.int .u64 m] := by simp [cellsAt, h.2.1, getCells, takeN, dropN]
theorem c109 (l : List Nat) (hl : ∀ x ∈ l, x < 256) (hll : l.length ≤ 2000000) (k m : Nat) (hk : k ≤ 1000000) (σ : St) (s : Nat) (h : SRC σ s l k m) :
    ∃ (r m' : Nat) (σ' : St), callI TT 109 [.ptr s 0] σ = some (.int .i64 r, σ') ∧ r ≤ 255 ∧ SRC σ' s l (k + 1) m' ∧ σ'.n = σ.n ∧ ∀ c, c ≠ s → σ'.get c = σ.get c := by
  have c0 := h.c0
  have c1 := h.c1
  have hw := wrapS (n := k) (by omega)
  have step : ∀ b : Nat, ∃ (m3 : Nat) (σ1 σ2 : St), m3 < 18446744073709551616 ∧ storeCellsA σ s 1 [.int .i64 ((k : Int) + 1)] = some σ1 ∧ cellsAt σ1 (.ptr s 2) 1 = some [.int .u64 m] ∧ wrapA .u64 (wrapA .u64 (wrapA .u64 ((m : Int) * 6364136223846793005) + (b : Int)) + 1442695040888963407) = (m3 : Int) ∧ storeCellsA σ1 s 2 [.int .u64 (m3 : Int)] = some σ2 ∧ SRC σ2 s l (k + 1) m3 ∧ σ2.n = σ.n ∧ ∀ c, c ≠ s → σ2.get c = σ.get c := by
    intro b
    obtain ⟨m3, e3, h3⟩ := wrap_u (wrapA .u64 (wrapA .u64 ((m : Int) * 6364136223846793005) + (b : Int)) + 1442695040888963407)
    obtain ⟨σ1, σ2, a1, a2, a3, a4, a5, a6⟩ := h.set (k' := k + 1) h3
    exact ⟨m3, σ1, σ2, h3, by simpa using a1, a2, e3, a3, a4, a5, a6⟩
  by_cases hlt : k < l.length
  · obtain ⟨b, hb⟩ : ∃ b, l[k]? = some b := ⟨l[k], List.getElem?_eq_getElem hlt⟩
    have hb2 : b < 256 := hl b (List.mem_of_getElem? hb)
    obtain ⟨m3, σ1, σ2, h3, a1, a2, a3, a4, a5, a6, a7⟩ := step b
    have d0 := a5.c0
    have d1 := a5.c1
    have kb : ∀ σ, cellsAt σ (.lp (byts l) k) 1 = some [.int .u8 b] := fun σ => getCells_byt hb
    have u1 : wrapA .i64 (b : Int) = b := n_wrap (by omega)
    have u2 : wrapA .u64 (b : Int) = b := n_wrapu (by omega)
    have hlt2 : ¬ l.length ≤ k := by omega
    have hle : k + 1 ≤ l.length := by omega
    have hle' : (k : Int) + 1 ≤ l.length := by omega
    have hle2 : ¬ ((l.length : Int) < (k : Int) + 1) := by omega
    refine ⟨b, m3, σ2, ?_, by omega, a5, a6, a7⟩
    simp only [Int.natCast_add, show ((1 : Nat) : Int) = 1 from rfl] at d1
    rw [cI_0 fn109 rfl md109, fi109]
    simp [xI_seq, xI_region, xI_ret, regA, regOps, runOps, opStep, wantedA, opA, evo, evos, calleeA, lk, nif_eq, putE, paramsE, valS, val2, keepE, restrict, finA, resA, binA, binInt, ofConst, ofConst1, loadA, TK.isAgg, asVar, unA, builtinA, lenOpA, lenA, ileb_cast, ileb_eq, ieqb_dec, indexAddrA, inB_dec, evPairs, storeA, AV.cellsOf, pairsOf, xI_nil, binBool, gcE, evOpt, xI_block, xI_loopH, xI_condM, xI_exitM, xI_skip, xI_blk, exitA, ty2, ty3, ty5, ty45, ty71, ty79, fieldAddrA, allOne, AV.one, ty2, ty3, ty5, ty45, ty71, ty79, c0, c1, hw, hlt, hlt2, kb, u1, u2, a1, a2, a3, a4, d0, d1, hle, hle', hle2, convA]
  · obtain ⟨m3, σ1, σ2, h3, a1, a2, a3, a4, a5, a6, a7⟩ := step 0
    have d0 := a5.c0
    have d1 := a5.c1
    have d2 := a5.c2
    have u2 : wrapA .u64 (0 : Int) = 0 := by decide
    have hlt2 : l.length ≤ k := by omega
    have hle : ¬ k + 1 ≤ l.length := by omega
    have hle' : ¬ (k : Int) + 1 ≤ l.length := by omega
    have hle2 : (l.length : Int) < (k : Int) + 1 := by omega
    have e1 : shrA (m3 : Int) (min 40 IntKind.u64.bits) = ((shrN m3 40 : Nat) : Int) := rfl
    have e2 : bitsA .and .u64 ((shrN m3 40 : Nat) : Int) 255 = some (.int .u64 ((andN (shrN m3 40) 255 : Nat) : Int)) := w_and .u64 (a := shrN m3 40) (b := 255) (by show m3 / 2 ^ 40 ≤ _; simp only [topOf]; omega) (by decide)
    have e3 : andN (shrN m3 40) 255 ≤ 255 := Nat.and_le_right
    have e4 : wrapA .i64 ((andN (shrN m3 40) 255 : Nat) : Int) = ((andN (shrN m3 40) 255 : Nat) : Int) := n_wrap (by omega)
    refine ⟨andN (shrN m3 40) 255, m3, σ2, ?_, e3, a5, a6, a7⟩
    simp only [Int.natCast_add, show ((1 : Nat) : Int) = 1 from rfl] at d1
    simp only [show ((0 : Nat) : Int) = 0 from rfl, Int.add_zero] at a3
    rw [cI_0 fn109 rfl md109, fi109]
    simp [xI_seq, xI_region, xI_ret, regA, regOps, runOps, opStep, wantedA, opA, evo, evos, calleeA, lk, nif_eq, putE, paramsE, valS, val2, keepE, restrict, finA, resA, binA, binInt, ofConst, ofConst1, loadA, TK.isAgg, asVar, unA, builtinA, lenOpA, lenA, ileb_cast, ileb_eq, ieqb_dec, indexAddrA, inB_dec, evPairs, storeA, AV.cellsOf, pairsOf, xI_nil, binBool, gcE, evOpt, xI_block, xI_loopH, xI_condM, xI_exitM, xI_skip, xI_blk, exitA, ty2, ty3, ty5, ty45, ty71, ty79, fieldAddrA, allOne, AV.one, ty2, ty3, ty5, ty45, ty71, ty79, c0, c1, hw, hlt, hlt2, u2, a1, a2, a3, a4, d0, d1, d2, hle, hle', hle2, e1, e2, e4, convA]

theorem c99 (l : List Nat) (hl : ∀ x ∈ l, x < 256) (hll : l.length ≤ 2000000) (k m : Nat) (hk : k ≤ 999000) (n : Nat) (hn : n ≤ 1000000) (σ : St) (s : Nat) (h : SRC σ s l k m) :
    ∃ (r k' m' : Nat) (σ' : St), callI TT 99 [.ptr s 0, .int .i64 n] σ = some (.int .i64 r, σ') ∧ r < max 1 n ∧ SRC σ' s l k' m' ∧ k' ≤ k + 2 ∧ σ'.n = σ.n ∧ ∀ c, c ≠ s → σ'.get c = σ.get c := by
  by_cases h1 : n ≤ 1
  · have h1' : (n : Int) ≤ 1 := by omega
    refine ⟨0, k, m, σ, ?_, by omega, h, by omega, rfl, fun _ _ => rfl⟩
    rw [cI_0 fn99 rfl md99, fi99]
    simp [xI_seq, xI_region, xI_ret, regA, regOps, runOps, opStep, wantedA, opA, evo, evos, calleeA, lk, nif_eq, putE, paramsE, valS, val2, keepE, restrict, finA, resA, binA, binInt, ofConst, ofConst1, loadA, TK.isAgg, asVar, unA, builtinA, lenOpA, lenA, ileb_cast, ileb_eq, ieqb_dec, indexAddrA, inB_dec, evPairs, storeA, AV.cellsOf, pairsOf, xI_nil, binBool, gcE, evOpt, xI_block, xI_loopH, xI_condM, xI_exitM, xI_skip, xI_blk, exitA, ty2, h1, h1']
  · have h1' : ¬ (n : Int) ≤ 1 := by omega
    have h0 : ¬ (n : Int) = 0 := by omega
    have h00 : ¬ n = 0 := by omega
    obtain ⟨r1, m1, σ1, c1, b1, s1, e1, k1⟩ := c109 l hl hll k m (by omega) σ s h
    by_cases h2 : 200 < n
    · have h2' : (200 : Int) < (n : Int) := by omega
      obtain ⟨r2, m2, σ2, c2, b2, s2, e2, k2⟩ := c109 l hl hll (k + 1) m1 (by omega) σ1 s s1
      have w1 : wrapA .i64 ((r1 : Int) * 256) = ((mulN r1 256 : Nat) : Int) := n_wrap (a := mulN r1 256) (by show r1 * 256 ≤ _; omega)
      have w2 : wrapA .i64 (((mulN r1 256 : Nat) : Int) + (r2 : Int)) = ((addN (mulN r1 256) r2 : Nat) : Int) := by rw [← Int.natCast_add]; exact n_wrap (a := addN (mulN r1 256) r2) (by show r1 * 256 + r2 ≤ _; omega)
      have w3 : ((addN (mulN r1 256) r2 : Nat) : Int).tmod (n : Int) = ((modN (addN (mulN r1 256) r2) n : Nat) : Int) := rfl
      have w4 : ((addN (mulN r1 256) r2 : Nat) : Int) % (n : Int) = ((modN (addN (mulN r1 256) r2) n : Nat) : Int) := rfl
      have w5 : modN (addN (mulN r1 256) r2) n < n := Nat.mod_lt _ (by omega)
      refine ⟨modN (addN (mulN r1 256) r2) n, k + 2, m2, σ2, ?_, by omega, s2, Nat.le_refl _, by omega, fun c hc => (k2 c hc).trans (k1 c hc)⟩
      rw [cI_0 fn99 rfl md99, fi99]
      simp [xI_seq, xI_region, xI_ret, regA, regOps, runOps, opStep, wantedA, opA, evo, evos, calleeA, lk, nif_eq, putE, paramsE, valS, val2, keepE, restrict, finA, resA, binA, binInt, ofConst, ofConst1, loadA, TK.isAgg, asVar, unA, builtinA, lenOpA, lenA, ileb_cast, ileb_eq, ieqb_dec, indexAddrA, inB_dec, evPairs, storeA, AV.cellsOf, pairsOf, xI_nil, binBool, gcE, evOpt, xI_block, xI_loopH, xI_condM, xI_exitM, xI_skip, xI_blk, exitA, ty2, h1, h1', h0, h00, c1, h2, h2', w1, c2, w2, w3, w4]
    · have h2' : ¬ (200 : Int) < (n : Int) := by omega
      have w3 : (r1 : Int).tmod (n : Int) = ((modN r1 n : Nat) : Int) := rfl
      have w4 : (r1 : Int) % (n : Int) = ((modN r1 n : Nat) : Int) := rfl
      have w5 : modN r1 n < n := Nat.mod_lt _ (by omega)
      refine ⟨modN r1 n, k + 1, m1, σ1, ?_, by omega, s1, by omega, e1, k1⟩
      rw [cI_0 fn99 rfl md99, fi99]
      simp [xI_seq, xI_region, xI_ret, regA, regOps, runOps, opStep, wantedA, opA, evo, evos, calleeA, lk, nif_eq, putE, paramsE, valS, val2, keepE, restrict, finA, resA, binA, binInt, ofConst, ofConst1, loadA, TK.isAgg, asVar, unA, builtinA, lenOpA, lenA, ileb_cast, ileb_eq, ieqb_dec, indexAddrA, inB_dec, evPairs, storeA, AV.cellsOf, pairsOf, xI_nil, binBool, gcE, evOpt, xI_block, xI_loopH, xI_condM, xI_exitM, xI_skip, xI_blk, exitA, ty2, h1, h1', h0, h00, c1, h2, h2', w3, w4]

theorem c98 (l : List Nat) (σ : St) : ∃ σ', callI TT 98 [.lst l.length (byts l)] σ = some (.ptr σ.n 0, σ') ∧ SRC σ' σ.n l 0 0 ∧ σ'.n = σ.n + 1 ∧ Old σ σ' := by
  refine ⟨σ.push ⟨[.lst l.length (byts l), .int .i64 0, .int .u64 0], 3, false⟩, ?_, ⟨Nat.lt_succ_self _, get_push_same, by decide⟩, rfl, Old.push⟩
  rw [cI_0 fn98 rfl md98, fi98]
  simp [xI_seq, xI_region, xI_ret, regA, regOps, runOps, opStep, wantedA, opA, evo, evos, calleeA, lk, nif_eq, putE, paramsE, valS, val2, keepE, restrict, finA, resA, binA, binInt, ofConst, ofConst1, loadA, TK.isAgg, asVar, unA, builtinA, lenOpA, lenA, ileb_cast, ileb_eq, ieqb_dec, indexAddrA, inB_dec, evPairs, storeA, AV.cellsOf, pairsOf, xI_nil, binBool, gcE, evOpt, xI_block, xI_loopH, xI_condM, xI_exitM, xI_skip, xI_blk, exitA, ty79, allOne, AV.one, buildA, sizesOf, fillA, putCells, fieldAddrA, allOne, AV.one, ty2, ty3, ty5, ty45, ty71, ty79]

theorem fac_le7 {n : Nat} (h : n ≤ 7) : fac n ≤ 5040 := by
  have : n = 0 ∨ n = 1 ∨ n = 2 ∨ n = 3 ∨ n = 4 ∨ n = 5 ∨ n = 6 ∨ n = 7 := by omega
  rcases this with rfl | rfl | rfl | rfl | rfl | rfl | rfl | rfl <;> decide
/-- A drawn order. -/
theorem s59 (l : List Nat) (hl : ∀ x ∈ l, x < 256) (hll : l.length ≤ 2000000) : ∃ n r : Nat, 1 ≤ n ∧ n ≤ 7 ∧ r < fac n ∧ FnS TT 59 [.lst l.length (byts l)] (ordAt n (iotaF 0 n) r []) := by
  obtain ⟨σ1, c1, s1, n1, _⟩ := c98 l ⟨[], 0⟩
  obtain ⟨q, k2, m2, σ2, c2, hq, s2, hk2, n2, o2⟩ := c99 l hl hll 0 0 (by omega) 7 (by omega) σ1 _ s1
  have hf := fac_le7 (n := q + 1) (by omega)
  have hp := fac_pos (q + 1)
  obtain ⟨r, k3, m3, σ3, c3, hr, s3, hk3, n3, o3⟩ := c99 l hl hll k2 m2 (by omega) (fac (q + 1)) (by omega) σ2 _ s2
  have e1 := fun σ => c72 (q + 1) (by omega) σ
  refine ⟨q + 1, r, by omega, by omega, by omega, ?_⟩
  obtain ⟨b, σ4, c4, r4, o4, e4⟩ := FnS.row (s73 (q + 1) r (by omega) (by omega)) (σ := σ3) (args := [.int .i64 (q + 1 : Nat), .int .i64 r]) rfl
  have hlen : (ordAt (q + 1) (iotaF 0 (q + 1)) r []).length = q + 1 := by rw [ordAt_length]; simp
  have hw : wrapA .i64 (1 + (q : Int)) = ((q + 1 : Nat) : Int) := by rw [wrapA_id (by omega) (by omega)]; omega
  obtain ⟨o, hg, _⟩ := r4
  refine FnS.mk fn59 rfl md59 ⟨σ4, b, o, ?_, hg⟩
  rw [hlen] at c4 ⊢
  simp only [show (⟨[], 0⟩ : St).n = 0 from rfl] at c1 c2 c3
  simp only [show ((7 : Nat) : Int) = 7 from rfl] at c2
  generalize q + 1 = n at *
  generalize fac n = fn at *
  rw [fi59]
  simp [xI_seq, xI_region, xI_ret, regA, regOps, runOps, opStep, wantedA, opA, evo, evos, calleeA, lk, nif_eq, putE, paramsE, valS, val2, keepE, restrict, finA, resA, binA, binInt, ofConst, ofConst1, loadA, TK.isAgg, asVar, unA, builtinA, lenOpA, lenA, ileb_cast, ileb_eq, ieqb_dec, indexAddrA, inB_dec, evPairs, storeA, AV.cellsOf, pairsOf, xI_nil, binBool, gcE, evOpt, xI_block, xI_loopH, xI_condM, xI_exitM, xI_skip, xI_blk, exitA, ty2, c1, c2, c3, c4, e1, hw]

theorem v55 (n m : Nat) (xs ys : List AV) : FnV TT 55 [.lst n xs, .lst m ys] (.bool (decide (1048576 < n) || decide (1048576 < m))) := by
  refine FnV.mk fn55 rfl md55 ⟨⟨[], 0⟩, ?_⟩ (fun _ => rfl) rfl
  rw [fi55]
  by_cases h : 1048576 < n
  · have h' : ¬ (n : Int) ≤ 1048576 := by omega
    simp [xI_seq, xI_region, xI_ret, regA, regOps, runOps, opStep, wantedA, opA, evo, evos, calleeA, lk, nif_eq, putE, paramsE, valS, val2, keepE, restrict, finA, resA, binA, binInt, ofConst, ofConst1, loadA, TK.isAgg, asVar, unA, builtinA, lenOpA, lenA, ileb_cast, ileb_eq, ieqb_dec, indexAddrA, inB_dec, evPairs, storeA, AV.cellsOf, pairsOf, xI_nil, binBool, gcE, evOpt, xI_block, xI_loopH, xI_condM, xI_exitM, xI_skip, xI_blk, exitA, ty3, ty5, ty45, h, h']
  · have h' : (n : Int) ≤ 1048576 := by omega
    by_cases h2 : 1048576 < m
    · have h2' : ¬ (m : Int) ≤ 1048576 := by omega
      simp [xI_seq, xI_region, xI_ret, regA, regOps, runOps, opStep, wantedA, opA, evo, evos, calleeA, lk, nif_eq, putE, paramsE, valS, val2, keepE, restrict, finA, resA, binA, binInt, ofConst, ofConst1, loadA, TK.isAgg, asVar, unA, builtinA, lenOpA, lenA, ileb_cast, ileb_eq, ieqb_dec, indexAddrA, inB_dec, evPairs, storeA, AV.cellsOf, pairsOf, xI_nil, binBool, gcE, evOpt, xI_block, xI_loopH, xI_condM, xI_exitM, xI_skip, xI_blk, exitA, ty3, ty5, ty45, h, h', h2, h2']
    · have h2' : (m : Int) ≤ 1048576 := by omega
      simp [xI_seq, xI_region, xI_ret, regA, regOps, runOps, opStep, wantedA, opA, evo, evos, calleeA, lk, nif_eq, putE, paramsE, valS, val2, keepE, restrict, finA, resA, binA, binInt, ofConst, ofConst1, loadA, TK.isAgg, asVar, unA, builtinA, lenOpA, lenA, ileb_cast, ileb_eq, ieqb_dec, indexAddrA, inB_dec, evPairs, storeA, AV.cellsOf, pairsOf, xI_nil, binBool, gcE, evOpt, xI_block, xI_loopH, xI_condM, xI_exitM, xI_skip, xI_blk, exitA, ty3, ty5, ty45, h, h', h2, h2']

theorem v56 (l : List Nat) (hl : ∀ x ∈ l, x < 256) (i n : Nat) (hn2 : n < 1000000) (hi : i < 1000000) : ∃ r : Nat, r < max 1 n ∧ FnV TT 56 [.lst l.length (byts l), .int .i64 i, .int .i64 n] (.int .i64 r) := by
  by_cases h1 : n ≤ 1
  · have h1' : (n : Int) ≤ 1 := by omega
    refine ⟨0, by omega, FnV.mk fn56 rfl md56 ⟨⟨[], 0⟩, ?_⟩ (fun _ => rfl) rfl⟩
    rw [fi56]
    simp [xI_seq, xI_region, xI_ret, regA, regOps, runOps, opStep, wantedA, opA, evo, evos, calleeA, lk, nif_eq, putE, paramsE, valS, val2, keepE, restrict, finA, resA, binA, binInt, ofConst, ofConst1, loadA, TK.isAgg, asVar, unA, builtinA, lenOpA, lenA, ileb_cast, ileb_eq, ieqb_dec, indexAddrA, inB_dec, evPairs, storeA, AV.cellsOf, pairsOf, xI_nil, binBool, gcE, evOpt, xI_block, xI_loopH, xI_condM, xI_exitM, xI_skip, xI_blk, exitA, ty2, ty5, ty45, h1, h1']
  have hn : 1 < n := by omega
  have h0 : ¬ (n : Int) ≤ 1 := by omega
  by_cases hil : i < l.length
  · obtain ⟨x, hx⟩ : ∃ x, l[i]? = some x := ⟨_, List.getElem?_eq_getElem hil⟩
    have hx2 : x < 256 := hl x (List.mem_of_getElem? hx)
    have hr : cellsAt (⟨[], 0⟩ : St) (.lp (byts l) i) 1 = some [.int .u8 x] := getCells_byt hx
    have hil2 : ¬ l.length ≤ i := by omega
    have hw : wrapA .i64 (x : Int) = x := wrapA_id (by omega) (by omega)
    have hm : (x : Int).tmod n = (x % n : Nat) := by rw [Int.tmod_eq_emod_of_nonneg (by omega)]; simp
    have hne : ¬ (n : Int) = 0 := by omega
    have hne2 : ¬ n = 0 := by omega
    have hlt := Nat.mod_lt x (show 0 < n by omega)
    refine ⟨x % n, by omega, FnV.mk fn56 rfl md56 ⟨⟨[], 0⟩, ?_⟩ (fun _ => rfl) rfl⟩
    rw [fi56]
    simp [xI_seq, xI_region, xI_ret, regA, regOps, runOps, opStep, wantedA, opA, evo, evos, calleeA, lk, nif_eq, putE, paramsE, valS, val2, keepE, restrict, finA, resA, binA, binInt, ofConst, ofConst1, loadA, TK.isAgg, asVar, unA, builtinA, lenOpA, lenA, ileb_cast, ileb_eq, ieqb_dec, indexAddrA, inB_dec, evPairs, storeA, AV.cellsOf, pairsOf, xI_nil, binBool, gcE, evOpt, xI_block, xI_loopH, xI_condM, xI_exitM, xI_skip, xI_blk, exitA, ty2, ty5, ty45, h0, hil, hil2, hr, convA, hw, hm, hne, hne2, ty5]
  · have hil2 : l.length ≤ i := by omega
    have hw : wrapA .i64 ((i : Int) * 37) = ((i * 37 : Nat) : Int) := by rw [wrapA_id (by omega) (by omega)]; omega
    have hw2 : wrapA .i64 (((i * 37 : Nat) : Int) + 11) = ((i * 37 + 11 : Nat) : Int) := by rw [wrapA_id (by omega) (by omega)]; omega
    have hm : ((i * 37 + 11 : Nat) : Int).tmod n = ((i * 37 + 11) % n : Nat) := by rw [Int.tmod_eq_emod_of_nonneg (by omega)]; simp
    have hne : ¬ (n : Int) = 0 := by omega
    have hne2 : ¬ n = 0 := by omega
    have hlt := Nat.mod_lt (i * 37 + 11) (show 0 < n by omega)
    refine ⟨(i * 37 + 11) % n, by omega, FnV.mk fn56 rfl md56 ⟨⟨[], 0⟩, ?_⟩ (fun _ => rfl) rfl⟩
    rw [fi56]
    generalize hz : i * 37 = z at *
    generalize hz2 : z + 11 = z2 at *
    simp [xI_seq, xI_region, xI_ret, regA, regOps, runOps, opStep, wantedA, opA, evo, evos, calleeA, lk, nif_eq, putE, paramsE, valS, val2, keepE, restrict, finA, resA, binA, binInt, ofConst, ofConst1, loadA, TK.isAgg, asVar, unA, builtinA, lenOpA, lenA, ileb_cast, ileb_eq, ieqb_dec, indexAddrA, inB_dec, evPairs, storeA, AV.cellsOf, pairsOf, xI_nil, binBool, gcE, evOpt, xI_block, xI_loopH, xI_condM, xI_exitM, xI_skip, xI_blk, exitA, ty2, ty5, ty45, h0, hil, hil2, hw, hw2, hm, hne, hne2, ty5]

noncomputable def b60 : Code := Try.f60.body.getD .skip
noncomputable def B60_0 : Code := (bodyC (bodyC (sndC (fstC (sndC (sndC b60))))))
noncomputable def K60_0 : List It := .lp B60_0 :: .blk 0 :: .code (sndC (sndC (sndC b60))) :: []
theorem xl60_0 {fi : FI} {env : Env} {σ : St} : exI TT fi K60_0 env σ = exI TT fi (.code B60_0 :: K60_0) env σ := by unfold K60_0; exact xI_lp
noncomputable def R60_0_0 : List It := .code (sndC (sndC (sndC b60))) :: []
theorem eK60_0_0 : exitA 0 K60_0 = some R60_0_0 := rfl
theorem l60 (a b : List Int) (n m : Nat) (hn : n = a.length) (hm : m = b.length) (he : n = m) (hs : n < 1000000) (σ : St) : ∀ (k i : Nat), i + k = n →
    exI TT (FI.of Try.f60 (TT.an 60)) K60_0 [(0, .lst n (ints a)), (1, .lst m (ints b)), (5, .int .i64 i)] σ = some (.bool (decide (a.drop i = b.drop i)), σ) := by
  intro k
  induction k with
  | zero =>
    intro i hi
    rw [List.drop_eq_nil_of_le (show a.length ≤ i by omega), List.drop_eq_nil_of_le (show b.length ≤ i by omega)]
    rw [fi60, xl60_0]
    simp only [B60_0, b60, Try.f60, Option.getD, fstC, sndC, bodyC, thnC, elsC]
    have h1 : n = i := by omega
    subst h1
    simp (maxSteps := 1000000) (disch := omega) [xI_seq, xI_region, xI_ret, regA, regOps, runOps, opStep, wantedA, opA, evo, evos, calleeA, lk, nif_eq, putE, paramsE, valS, val2, keepE, restrict, finA, resA, binA, binInt, ofConst, ofConst1, loadA, TK.isAgg, asVar, unA, builtinA, lenOpA, lenA, indexAddrA, evPairs, storeA, AV.cellsOf, pairsOf, xI_nil, binBool, gcE, evOpt, runTr, pairsOk, pairOk, sameVal, AV.eqv, lastOf, lstAt, eqvs, boundA, indexA, regF, twoOf, prsOf, memI, runTrF, selF, runTr2, freshOp, scals, AV.scal, xI_block, xI_loopH, xI_condM, xI_exitM, xI_skip, xI_blk, exitA, List.getElem?_cons_zero, List.getElem?_cons_succ, List.getElem?_toArray, List.getElem?_nil, ileb_t, ileb_f, ieqb_t, ieqb_f, inB_t, wrapA_id, lp_read, ieqb_self, Nat.blt_eq, cond_true, cond_false, ty2, ty3, ty22, eK60_0_0]
    simp only [R60_0_0, b60, Try.f60, Option.getD, fstC, sndC, bodyC, thnC, elsC]
    simp (maxSteps := 1000000) (disch := omega) [xI_seq, xI_region, xI_ret, regA, regOps, runOps, opStep, wantedA, opA, evo, evos, calleeA, lk, nif_eq, putE, paramsE, valS, val2, keepE, restrict, finA, resA, binA, binInt, ofConst, ofConst1, loadA, TK.isAgg, asVar, unA, builtinA, lenOpA, lenA, indexAddrA, evPairs, storeA, AV.cellsOf, pairsOf, xI_nil, binBool, gcE, evOpt, runTr, pairsOk, pairOk, sameVal, AV.eqv, lastOf, lstAt, eqvs, boundA, indexA, regF, twoOf, prsOf, memI, runTrF, selF, runTr2, freshOp, scals, AV.scal, xI_block, xI_loopH, xI_condM, xI_exitM, xI_skip, xI_blk, exitA, List.getElem?_cons_zero, List.getElem?_cons_succ, List.getElem?_toArray, List.getElem?_nil, ileb_t, ileb_f, ieqb_t, ieqb_f, inB_t, wrapA_id, lp_read, ieqb_self, Nat.blt_eq, cond_true, cond_false, ty2, ty3, ty22, eK60_0_0]
  | succ k ih =>
    intro i hi
    have ih := ih (i + 1) (by omega)
    have da : a.drop i = at0 a i :: a.drop (i + 1) := by rw [List.drop_eq_getElem_cons (show i < a.length by omega)]; simp [at0, List.getD_eq_getElem?_getD, show i < a.length by omega]
    have db : b.drop i = at0 b i :: b.drop (i + 1) := by rw [List.drop_eq_getElem_cons (show i < b.length by omega)]; simp [at0, List.getD_eq_getElem?_getD, show i < b.length by omega]
    rw [da, db]
    have hw := wrapS (n := i) (by omega)
    by_cases hx : at0 a i = at0 b i
    · have : decide (at0 a i :: a.drop (i + 1) = at0 b i :: b.drop (i + 1)) = decide (a.drop (i + 1) = b.drop (i + 1)) := by simp [hx]
      rw [this, ← ih]
      rw [fi60, xl60_0]
      simp only [B60_0, b60, Try.f60, Option.getD, fstC, sndC, bodyC, thnC, elsC]
      simp (maxSteps := 1000000) (disch := omega) [xI_seq, xI_region, xI_ret, regA, regOps, runOps, opStep, wantedA, opA, evo, evos, calleeA, lk, nif_eq, putE, paramsE, valS, val2, keepE, restrict, finA, resA, binA, binInt, ofConst, ofConst1, loadA, TK.isAgg, asVar, unA, builtinA, lenOpA, lenA, indexAddrA, evPairs, storeA, AV.cellsOf, pairsOf, xI_nil, binBool, gcE, evOpt, runTr, pairsOk, pairOk, sameVal, AV.eqv, lastOf, lstAt, eqvs, boundA, indexA, regF, twoOf, prsOf, memI, runTrF, selF, runTr2, freshOp, scals, AV.scal, xI_block, xI_loopH, xI_condM, xI_exitM, xI_skip, xI_blk, exitA, List.getElem?_cons_zero, List.getElem?_cons_succ, List.getElem?_toArray, List.getElem?_nil, ileb_t, ileb_f, ieqb_t, ieqb_f, inB_t, wrapA_id, lp_read, ieqb_self, Nat.blt_eq, cond_true, cond_false, ty2, ty3, ty22, eK60_0_0, hx, hw]
    · have : decide (at0 a i :: a.drop (i + 1) = at0 b i :: b.drop (i + 1)) = false := by simp [hx]
      rw [this]
      rw [fi60, xl60_0]
      simp only [B60_0, b60, Try.f60, Option.getD, fstC, sndC, bodyC, thnC, elsC]
      simp (maxSteps := 1000000) (disch := omega) [xI_seq, xI_region, xI_ret, regA, regOps, runOps, opStep, wantedA, opA, evo, evos, calleeA, lk, nif_eq, putE, paramsE, valS, val2, keepE, restrict, finA, resA, binA, binInt, ofConst, ofConst1, loadA, TK.isAgg, asVar, unA, builtinA, lenOpA, lenA, indexAddrA, evPairs, storeA, AV.cellsOf, pairsOf, xI_nil, binBool, gcE, evOpt, runTr, pairsOk, pairOk, sameVal, AV.eqv, lastOf, lstAt, eqvs, boundA, indexA, regF, twoOf, prsOf, memI, runTrF, selF, runTr2, freshOp, scals, AV.scal, xI_block, xI_loopH, xI_condM, xI_exitM, xI_skip, xI_blk, exitA, List.getElem?_cons_zero, List.getElem?_cons_succ, List.getElem?_toArray, List.getElem?_nil, ileb_t, ileb_f, ieqb_t, ieqb_f, inB_t, wrapA_id, lp_read, ieqb_self, Nat.blt_eq, cond_true, cond_false, ty2, ty3, ty22, eK60_0_0, hx, hw]
theorem v60 (a b : List Int) (n m : Nat) (hn : n = a.length) (hm : m = b.length) (hs : n < 1000000) : FnV TT 60 [.lst n (ints a), .lst m (ints b)] (.bool (decide (a = b))) := by
  refine FnV.mk fn60 rfl md60 ⟨⟨[], 0⟩, ?_⟩ (fun _ => rfl) rfl
  by_cases he : n = m
  · have h := l60 a b n m hn hm he hs ⟨[], 0⟩ n 0 (by omega)
    rw [List.drop_zero, List.drop_zero] at h
    simp only [show ((0 : Nat) : Int) = 0 from rfl] at h
    rw [← h, fi60]
    subst he
    simp (maxSteps := 1000000) (disch := omega) [xI_seq, xI_region, xI_ret, regA, regOps, runOps, opStep, wantedA, opA, evo, evos, calleeA, lk, nif_eq, putE, paramsE, valS, val2, keepE, restrict, finA, resA, binA, binInt, ofConst, ofConst1, loadA, TK.isAgg, asVar, unA, builtinA, lenOpA, lenA, indexAddrA, evPairs, storeA, AV.cellsOf, pairsOf, xI_nil, binBool, gcE, evOpt, runTr, pairsOk, pairOk, sameVal, AV.eqv, lastOf, lstAt, eqvs, boundA, indexA, regF, twoOf, prsOf, memI, runTrF, selF, runTr2, freshOp, scals, AV.scal, xI_block, xI_loopH, xI_condM, xI_exitM, xI_skip, xI_blk, exitA, List.getElem?_cons_zero, List.getElem?_cons_succ, List.getElem?_toArray, List.getElem?_nil, ileb_t, ileb_f, ieqb_t, ieqb_f, inB_t, wrapA_id, lp_read, ieqb_self, Nat.blt_eq, cond_true, cond_false, ty2, ty3, ty22, eK60_0_0]
    rfl
  · have : ¬ a = b := fun e => he (by rw [hn, hm, e])
    rw [decide_eq_false this, fi60]
    have he' : ¬ (n : Int) = (m : Int) := by omega
    simp (maxSteps := 1000000) (disch := omega) [xI_seq, xI_region, xI_ret, regA, regOps, runOps, opStep, wantedA, opA, evo, evos, calleeA, lk, nif_eq, putE, paramsE, valS, val2, keepE, restrict, finA, resA, binA, binInt, ofConst, ofConst1, loadA, TK.isAgg, asVar, unA, builtinA, lenOpA, lenA, indexAddrA, evPairs, storeA, AV.cellsOf, pairsOf, xI_nil, binBool, gcE, evOpt, runTr, pairsOk, pairOk, sameVal, AV.eqv, lastOf, lstAt, eqvs, boundA, indexA, regF, twoOf, prsOf, memI, runTrF, selF, runTr2, freshOp, scals, AV.scal, xI_block, xI_loopH, xI_condM, xI_exitM, xI_skip, xI_blk, exitA, List.getElem?_cons_zero, List.getElem?_cons_succ, List.getElem?_toArray, List.getElem?_nil, ileb_t, ileb_f, ieqb_t, ieqb_f, inB_t, wrapA_id, lp_read, ieqb_self, Nat.blt_eq, cond_true, cond_false, ty2, ty3, ty22, eK60_0_0, he, he']

noncomputable def b61 : Code := Try.f61.body.getD .skip
noncomputable def B61_0 : Code := (bodyC (bodyC (sndC (fstC (sndC (sndC b61))))))
noncomputable def K61_0 : List It := .lp B61_0 :: .blk 0 :: .code (sndC (sndC (sndC b61))) :: []
theorem xl61_0 {fi : FI} {env : Env} {σ : St} : exI TT fi K61_0 env σ = exI TT fi (.code B61_0 :: K61_0) env σ := by unfold K61_0; exact xI_lp
noncomputable def R61_0_0 : List It := .code (sndC (sndC (sndC b61))) :: []
theorem eK61_0_0 : exitA 0 K61_0 = some R61_0_0 := rfl
theorem l61 (n : Nat) (hn : n ≤ 12) (σ : St) : ∀ (m j : Nat), 1 ≤ j → j ≤ 12 → (j + m = n ∨ (m = 0 ∧ n ≤ j)) → exI TT (FI.of Try.f61 (TT.an 61)) K61_0 [(0, .int .i64 n), (3, .int .i64 (fac j)), (4, .int .i64 (j + 1 : Nat))] σ = some (.int .i64 (fac (j + m)), σ) := by
  intro m
  induction m with
  | zero =>
    intro j h1 h12 h
    have hle : n ≤ j := by omega
    rw [Nat.add_zero]
    generalize fac j = fj
    rw [fi61, xl61_0]
    simp only [B61_0, b61, Try.f61, Option.getD, fstC, sndC, bodyC, thnC, elsC]
    simp (maxSteps := 1000000) (disch := omega) [xI_seq, xI_region, xI_ret, regA, regOps, runOps, opStep, wantedA, opA, evo, evos, calleeA, lk, nif_eq, putE, paramsE, valS, val2, keepE, restrict, finA, resA, binA, binInt, ofConst, ofConst1, loadA, TK.isAgg, asVar, unA, builtinA, lenOpA, lenA, indexAddrA, evPairs, storeA, AV.cellsOf, pairsOf, xI_nil, binBool, gcE, evOpt, runTr, pairsOk, pairOk, sameVal, AV.eqv, lastOf, lstAt, eqvs, boundA, indexA, regF, twoOf, prsOf, memI, runTrF, selF, runTr2, freshOp, scals, AV.scal, xI_block, xI_loopH, xI_condM, xI_exitM, xI_skip, xI_blk, exitA, List.getElem?_cons_zero, List.getElem?_cons_succ, List.getElem?_toArray, List.getElem?_nil, ileb_t, ileb_f, ieqb_t, ieqb_f, inB_t, wrapA_id, lp_read, ieqb_self, Nat.blt_eq, cond_true, cond_false, ty2, eK61_0_0]
    simp only [R61_0_0, b61, Try.f61, Option.getD, fstC, sndC, bodyC, thnC, elsC]
    simp (maxSteps := 1000000) (disch := omega) [xI_seq, xI_region, xI_ret, regA, regOps, runOps, opStep, wantedA, opA, evo, evos, calleeA, lk, nif_eq, putE, paramsE, valS, val2, keepE, restrict, finA, resA, binA, binInt, ofConst, ofConst1, loadA, TK.isAgg, asVar, unA, builtinA, lenOpA, lenA, indexAddrA, evPairs, storeA, AV.cellsOf, pairsOf, xI_nil, binBool, gcE, evOpt, runTr, pairsOk, pairOk, sameVal, AV.eqv, lastOf, lstAt, eqvs, boundA, indexA, regF, twoOf, prsOf, memI, runTrF, selF, runTr2, freshOp, scals, AV.scal, xI_block, xI_loopH, xI_condM, xI_exitM, xI_skip, xI_blk, exitA, List.getElem?_cons_zero, List.getElem?_cons_succ, List.getElem?_toArray, List.getElem?_nil, ileb_t, ileb_f, ieqb_t, ieqb_f, inB_t, wrapA_id, lp_read, ieqb_self, Nat.blt_eq, cond_true, cond_false, ty2, eK61_0_0]
  | succ m ih =>
    intro j h1 h12 h
    have ih := ih (j + 1) (by omega) (by omega) (by omega)
    rw [show j + 1 + m = j + (m + 1) by omega] at ih
    have hf : fac (j + 1) = (j + 1) * fac j := rfl
    have hb := fac_le (n := j + 1) (by omega)
    have hw1 : wrapA .i64 ((fac j : Int) * ((j : Int) + 1)) = (fac (j + 1) : Int) := by
      have e : (fac j : Int) * ((j : Int) + 1) = (fac (j + 1) : Int) := by rw [hf, Int.natCast_mul, Int.mul_comm]; rfl
      rw [e]; exact wrapA_id (by omega) (by omega)
    have hw2 : wrapA .i64 ((j : Int) + 1 + 1) = (j : Int) + 1 + 1 := wrapA_id (by omega) (by omega)
    rw [← ih]
    simp only [Int.natCast_add, show ((1 : Nat) : Int) = 1 from rfl]
    generalize fac (j + 1) = fj1 at *
    generalize fac j = fj at *
    rw [fi61, xl61_0]
    simp only [B61_0, b61, Try.f61, Option.getD, fstC, sndC, bodyC, thnC, elsC]
    simp (maxSteps := 1000000) (disch := omega) [xI_seq, xI_region, xI_ret, regA, regOps, runOps, opStep, wantedA, opA, evo, evos, calleeA, lk, nif_eq, putE, paramsE, valS, val2, keepE, restrict, finA, resA, binA, binInt, ofConst, ofConst1, loadA, TK.isAgg, asVar, unA, builtinA, lenOpA, lenA, indexAddrA, evPairs, storeA, AV.cellsOf, pairsOf, xI_nil, binBool, gcE, evOpt, runTr, pairsOk, pairOk, sameVal, AV.eqv, lastOf, lstAt, eqvs, boundA, indexA, regF, twoOf, prsOf, memI, runTrF, selF, runTr2, freshOp, scals, AV.scal, xI_block, xI_loopH, xI_condM, xI_exitM, xI_skip, xI_blk, exitA, List.getElem?_cons_zero, List.getElem?_cons_succ, List.getElem?_toArray, List.getElem?_nil, ileb_t, ileb_f, ieqb_t, ieqb_f, inB_t, wrapA_id, lp_read, ieqb_self, Nat.blt_eq, cond_true, cond_false, ty2, eK61_0_0, hw1, hw2]
theorem c61 (n : Nat) (hn : n ≤ 12) (σ : St) : callI TT 61 [.int .i64 n] σ = some (.int .i64 (fac n), σ) := by
  refine (FnV.mk (args' := [.int .i64 n]) (v := .int .i64 (fac n)) fn61 rfl md61 ⟨⟨[], 0⟩, ?_⟩ (fun _ => rfl) rfl) σ _ rfl
  have h := l61 n hn ⟨[], 0⟩ (n - 1) 1 (by omega) (by omega) (by omega)
  have e : fac (1 + (n - 1)) = fac n := by
    cases n with
    | zero => rfl
    | succ n => rw [show 1 + (n + 1 - 1) = n + 1 by omega]
  rw [e] at h
  simp only [show ((1 + 1 : Nat) : Int) = 2 from rfl, show ((fac 1 : Nat) : Int) = 1 from rfl] at h
  rw [← h, fi61]
  simp (maxSteps := 1000000) (disch := omega) [xI_seq, xI_region, xI_ret, regA, regOps, runOps, opStep, wantedA, opA, evo, evos, calleeA, lk, nif_eq, putE, paramsE, valS, val2, keepE, restrict, finA, resA, binA, binInt, ofConst, ofConst1, loadA, TK.isAgg, asVar, unA, builtinA, lenOpA, lenA, indexAddrA, evPairs, storeA, AV.cellsOf, pairsOf, xI_nil, binBool, gcE, evOpt, runTr, pairsOk, pairOk, sameVal, AV.eqv, lastOf, lstAt, eqvs, boundA, indexA, regF, twoOf, prsOf, memI, runTrF, selF, runTr2, freshOp, scals, AV.scal, xI_block, xI_loopH, xI_condM, xI_exitM, xI_skip, xI_blk, exitA, List.getElem?_cons_zero, List.getElem?_cons_succ, List.getElem?_toArray, List.getElem?_nil, ileb_t, ileb_f, ieqb_t, ieqb_f, inB_t, wrapA_id, lp_read, ieqb_self, Nat.blt_eq, cond_true, cond_false, ty2, eK61_0_0]
  rfl

end Go.Proofs.Ytaniaeefijgaiaa
