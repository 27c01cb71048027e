/- The interpreter's memory operations hold of the model's. Nothing is claimed here; no condition. -/
import Derived.Test.YtjecbjnckbihoaaDoorAbsC
namespace Go.Abs
open Go

variable {P : Program} {T : Tab} {Z : Fz} {φ : Nat → Pl} {σ σ' : St} {w w' : World}

theorem tyOf_spec {t : TypeId} {i : TyI} (h : tyOf P t = some i) : ∃ info d z, P.info? t = some info ∧ P.underlying t = some d ∧ info.zero = some z ∧ ofConsts z.cells.toList = some i.zero ∧
    i.zero.length = i.size ∧ i.k = kindOf d ∧ i.size = info.size ∧ i.bytes = info.bytes ∧ eqFine P t d = true := by
  unfold tyOf at h
  split at h
  · rename_i info d hi hd
    split at h
    · rename_i z hz
      split at h
      · rename_i l hl
        split at h
        · rename_i hlen
          cases hf : eqFine P t d with
          | false => rw [hf] at h; cases h
          | true =>
            rw [hf] at h
            cases h
            exact ⟨info, d, z, hi, hd, hz, hl, hlen.1, rfl, rfl, rfl, hf⟩
        · cases h
      · cases h
    · cases h
  · cases h

theorem tyOf_small {t : TypeId} {i : TyI} (h : tyOf P t = some i) : i.size < 7000000000 := by
  unfold tyOf at h
  split at h
  · rename_i info d hi hd
    split at h
    · rename_i z hz
      split at h
      · rename_i l hl
        split at h
        · rename_i hlen
          cases hf : eqFine P t d with
          | false => rw [hf] at h; cases h
          | true =>
            rw [hf] at h
            cases h
            exact hlen.2
        · cases h
      · cases h
    · cases h
  · cases h

structure TyOk (P : Program) (t : TypeId) (i : TyI) : Prop where
  size : ∀ w, (sizeOf t).run P w = .ok i.size w
  agg : ∀ w, (isAgg t).run P w = .ok i.k.isAgg w
  und : ∃ d, (∀ w, (underlying t).run P w = .ok d w) ∧ i.k = kindOf d
  info : ∃ x : TypeInfo, (∀ w, (typeInfo t).run P w = .ok x w) ∧ x.bytes = i.bytes
  zero : ∃ z : Value, (∀ w, (zeroValue t).run P w = .ok z w) ∧ z.cells.size = i.size ∧ ofConsts z.cells.toList = some i.zero
  zlen : i.zero.length = i.size
  small : i.size < 7000000000

theorem ofConsts_length : ∀ (vs : List Value) (xs : List AV), ofConsts vs = some xs → xs.length = vs.length
  | [], xs, h => by simp [ofConsts] at h; subst h; rfl
  | v :: r, xs, h => by
    simp only [ofConsts] at h
    split at h
    · rename_i x y h1 h2
      cases h
      simp [ofConsts_length r y h2]
    · cases h

theorem ofConst1_spec {v : Value} {x : AV} (h : ofConst1 v = some x) : VR Z φ x v ∧ Sc 0 x ∧ x.one = true := by
  unfold ofConst1 at h
  split at h <;> first | (cases h; done) | (cases h; simp [VR, Sc, AV.one])

theorem ofConsts_spec : ∀ (vs : List Value) (xs : List AV), ofConsts vs = some xs → VRs Z φ xs vs ∧ Scs 0 xs ∧ allOne xs = true
  | [], xs, h => by simp [ofConsts] at h; subst h; exact ⟨trivial, trivial, rfl⟩
  | v :: r, xs, h => by
    simp only [ofConsts] at h
    split at h
    · rename_i x y h1 h2
      cases h
      obtain ⟨a, b, c⟩ := ofConst1_spec (Z := Z) (φ := φ) h1
      obtain ⟨d, e, f⟩ := ofConsts_spec r y h2
      exact ⟨⟨a, d⟩, ⟨b, e⟩, by simp [allOne, c, f]⟩
    · cases h

theorem ofConst_spec {v : Value} {x : AV} (h : ofConst v = some x) : VR Z φ x v ∧ Sc 0 x := by
  unfold ofConst at h
  split at h
  · rename_i cs
    split at h
    · rename_i l hl
      cases h
      obtain ⟨a, b, _⟩ := ofConsts_spec (Z := Z) (φ := φ) _ _ hl
      exact ⟨⟨cs.toList, rfl, (ofConsts_length _ _ hl).symm, a⟩, b⟩
    · cases h
  · obtain ⟨a, b, _⟩ := ofConst1_spec (Z := Z) (φ := φ) h
    exact ⟨a, b⟩

theorem TyOk.of {t : TypeId} {i : TyI} (h : tyOf P t = some i) : TyOk P t i := by
  obtain ⟨info, d, z, h1, h2, h3, h4, h5, h6, h7, h8, _⟩ := tyOf_spec h
  have hinfo : ∀ w, (typeInfo t).run P w = .ok info w := fun w => by simp [typeInfo, h1]
  have hund : ∀ w, (underlying t).run P w = .ok d w := fun w => run_underlying h2 w
  refine ⟨fun w => by simp [sizeOf, hinfo, h7], fun w => ?_, ⟨d, hund, h6⟩, ⟨info, hinfo, h8.symm⟩, ⟨z, fun w => by simp [zeroValue, hinfo, h3], ?_, h4⟩, h5, tyOf_small h⟩
  · simp only [isAgg, Sem.run_bind, hund, Result.andThen_ok, h6]
    cases d <;> rfl
  · rw [← h5, ofConsts_length _ _ h4]; simp

theorem kind_slice {d : TypeDesc} {e : TypeId} (h : kindOf d = .slice e) : d = .slice e := by
  cases d <;> simp_all [kindOf]
theorem kind_array {d : TypeDesc} {n : Nat} {e : TypeId} (h : kindOf d = .array n e) : d = .array n e := by
  cases d <;> simp_all [kindOf]
theorem kind_int {d : TypeDesc} {k : IntKind} (h : kindOf d = .int k) : d = .int k := by
  cases d <;> simp_all [kindOf]
theorem kind_string {d : TypeDesc} (h : kindOf d = .string) : d = .string := by
  cases d <;> simp_all [kindOf]
theorem kind_bool {d : TypeDesc} (h : kindOf d = .bool) : d = .bool := by
  cases d <;> simp_all [kindOf]
theorem kind_pointer {d : TypeDesc} (h : kindOf d = .pointer) : ∃ e, d = .pointer e := by
  cases d <;> simp_all [kindOf]
theorem kind_func {d : TypeDesc} (h : kindOf d = .func) : ∃ a b c, d = .func a b c := by
  cases d <;> simp_all [kindOf]
theorem kind_struct {d : TypeDesc} {fs : List (TypeId × Nat)} (h : kindOf d = .struct fs) : ∃ gs : Array Field, d = .struct gs ∧ fs = gs.toList.map fun f => (f.type, f.offset) := by
  cases d <;> simp_all [kindOf]

/-! ### Cells of a value -/
theorem one_oneCell {x : AV} {u : Value} (h1 : x.one = true) (h : VR Z φ x u) : u.oneCell' = true ∧ u.cells = #[u] := by
  cases x <;> simp only [AV.one, Bool.false_eq_true] at h1 <;> simp only [VR] at h
  case lst => rcases h with ⟨_, _, _, _, rfl⟩ | ⟨_, _, _, _, _, _, rfl, _⟩ <;> exact ⟨rfl, rfl⟩
  case lp => obtain ⟨_, _, _, _, _, rfl, _⟩ := h; exact ⟨rfl, rfl⟩
  case fn => obtain ⟨_, _, rfl, _⟩ := h; exact ⟨rfl, rfl⟩
  all_goals (subst h; exact ⟨rfl, rfl⟩)

theorem allOne_oneCell : ∀ {xs : List AV} {us : List Value}, allOne xs = true → us.length = xs.length → VRs Z φ xs us → ∀ v ∈ us, v.oneCell' = true
  | [], [], _, _, _ => by simp
  | [], _ :: _, _, h, _ => by simp at h
  | _ :: _, [], _, h, _ => by simp at h
  | x :: xs, u :: us, h1, h2, h3 => by
    simp only [allOne, Bool.and_eq_true, VRs, List.length_cons, Nat.add_right_cancel_iff] at *
    intro v hv
    rcases List.mem_cons.1 hv with rfl | hv
    · exact (one_oneCell h1.1 h3.1).1
    · exact allOne_oneCell h1.2 h2 h3.2 v hv

/-- The cells of a value. -/
theorem cells_rel {x : AV} {u : Value} {n : Nat} (h1 : allOne x.cellsOf = true) (h : VR Z φ x u) (hs : Sc n x) : u.cells.size = x.cellsOf.length ∧ VRs Z φ x.cellsOf u.cells.toList ∧ Scs n x.cellsOf := by
  by_cases hx : ∃ cs, x = .agg cs
  · obtain ⟨cs, rfl⟩ := hx
    simp only [VR] at h
    obtain ⟨l, rfl, hl, hr⟩ := h
    exact ⟨by simpa [Value.cells, AV.cellsOf] using hl, by simpa [Value.cells, AV.cellsOf] using hr, hs⟩
  · have e : x.cellsOf = [x] := by
      cases x <;> first | rfl | exact (hx ⟨_, rfl⟩).elim
    rw [e] at h1 ⊢
    have h1' : x.one = true := by simpa [allOne] using h1
    rw [(one_oneCell h1' h).2]
    exact ⟨rfl, ⟨h, trivial⟩, ⟨hs, trivial⟩⟩

theorem getCells_spec {cs out : List AV} {off n : Nat} (h : getCells cs off n = some out) : off + n ≤ cs.length ∧ out = (cs.drop off).take n ∧ out.length = n := by
  rw [getCells_eq] at h
  by_cases hle : off + n ≤ cs.length
  · rw [if_pos hle] at h
    have h' := (Option.some.inj h).symm
    subst h'
    exact ⟨hle, rfl, by simp; omega⟩
  · rw [if_neg hle] at h; cases h

theorem VRs_drop {xs : List AV} {us : List Value} (h : VRs Z φ xs us) (k : Nat) : VRs Z φ (xs.drop k) (us.drop k) := by
  obtain ⟨h1, h2⟩ := VRs_iff.1 h
  refine VRs_iff.2 ⟨by simp; omega, fun i x y hx hy => ?_⟩
  rw [List.getElem?_drop] at hx hy
  exact h2 _ x y hx hy

theorem VRs_take {xs : List AV} {us : List Value} (h : VRs Z φ xs us) (k : Nat) : VRs Z φ (xs.take k) (us.take k) := by
  obtain ⟨h1, h2⟩ := VRs_iff.1 h
  refine VRs_iff.2 ⟨by simp; omega, fun i x y hx hy => ?_⟩
  rw [List.getElem?_take] at hx hy
  split at hx
  · rename_i hlt
    rw [if_pos hlt] at hy
    exact h2 i x y hx hy
  · cases hx

theorem VRs_more {xs : List AV} {us vs : List Value} (h : VRs Z φ xs us) : VRs Z φ xs (us ++ vs) := by
  obtain ⟨h1, h2⟩ := VRs_iff.1 h
  refine VRs_iff.2 ⟨by simp; omega, fun i x y hx hy => ?_⟩
  have hi := (List.getElem?_eq_some_iff.1 hx).1
  rw [List.getElem?_append, if_pos (by omega)] at hy
  exact h2 i x y hx hy

theorem VRs_append {xs ys : List AV} {us vs : List Value} (h : VRs Z φ xs us) (hl : us.length = xs.length) (k : VRs Z φ ys vs) : VRs Z φ (xs ++ ys) (us ++ vs) := by
  obtain ⟨h1, h2⟩ := VRs_iff.1 h
  obtain ⟨k1, k2⟩ := VRs_iff.1 k
  refine VRs_iff.2 ⟨by simp; omega, fun i x y hx hy => ?_⟩
  rw [List.getElem?_append] at hx hy
  rw [hl] at hy
  split at hx
  · rename_i hlt; rw [if_pos hlt] at hy; exact h2 i x y hx hy
  · rename_i hlt; rw [if_neg hlt] at hy; exact k2 _ x y hx hy

theorem Scs_drop {n : Nat} {xs : List AV} (h : Scs n xs) (k : Nat) : Scs n (xs.drop k) := Scs_iff.2 fun x hx => Scs_iff.1 h x (List.mem_of_mem_drop hx)
theorem Scs_take {n : Nat} {xs : List AV} (h : Scs n xs) (k : Nat) : Scs n (xs.take k) := Scs_iff.2 fun x hx => Scs_iff.1 h x (List.mem_of_mem_take hx)
theorem Scs_append {n : Nat} {xs ys : List AV} (h : Scs n xs) (k : Scs n ys) : Scs n (xs ++ ys) := Scs_iff.2 fun x hx => (List.mem_append.1 hx).elim (Scs_iff.1 h x) (Scs_iff.1 k x)

/-- The cells that lie at an address. -/
theorem cellsAt_spec (hI : Inv Z φ σ w) {a : AV} {ua : Value} {n : Nat} {cs : List AV} (h : cellsAt σ a n = some cs) (ha : VR Z φ a ua) (hs : Sc σ.n a) :
    ∃ B o c e fz, ua = .pointer (some ⟨B, o, none⟩) ∧ w.heap[B]? = some (.cells c e fz) ∧ o + n ≤ c.size ∧ cs.length = n ∧ VRs Z φ cs ((c.toList.drop o).take n) ∧ Scs σ.n cs := by
  unfold cellsAt at h
  split at h
  · rename_i ds off
    obtain ⟨h1, h2, h3⟩ := getCells_spec h
    simp only [VR] at ha
    obtain ⟨B, o, c, e, fz, rfl, hZ, hle, hv⟩ := ha
    refine ⟨B, o + off, c, e, fz, rfl, hI.z B _ hZ, by omega, h3, ?_, ?_⟩
    · rw [h2]
      have := VRs_take (VRs_drop hv off) n
      rwa [List.drop_drop] at this
    · rw [h2]; exact Scs_take (Scs_drop (Scs_mono (Nat.zero_le _) _ hs) _) _
  · rename_i b off
    split at h
    · rename_i x hb
      obtain ⟨h1, h2, h3⟩ := getCells_spec h
      simp only [VR] at ha
      obtain ⟨c, e, fz, g1, g2, g3, g4, g5⟩ := hI.r b x hb
      refine ⟨(φ b).blk, (φ b).base + off, c, e, fz, ha, g1, by omega, h3, ?_, ?_⟩
      · rw [h2]
        have := VRs_take (VRs_drop g2 off) n
        rwa [List.drop_drop] at this
      · rw [h2]; exact Scs_take (Scs_drop (hI.sc b x hb).2 _) _
    · cases h
  · cases h

end Go.Abs
