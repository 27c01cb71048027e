/- How abstract values and heaps stand for the model's; small laws. Nothing is claimed here; no condition. -/
import Derived.Test.YtjecbjnckbihoaaDoorAbsA
namespace Go.Abs
open Go

/-- Where a row of the abstract heap lies: the block, the first cell, how many more elements the slices' capacity has than the abstract one. -/
structure Pl where
  blk : Nat
  base : Nat
  extra : Nat

abbrev Fz := Nat → Option Obj

mutual
def VR (Z : Fz) (φ : Nat → Pl) : AV → Value → Prop
  | .int k n, v => v = .int k n
  | .bool b, v => v = .bool b
  | .str s, v => v = .string ⟨⟨s⟩⟩
  | .lst len cs, v => (len = 0 ∧ cs = [] ∧ ∃ a cap, v = .slice a 0 cap) ∨ ∃ B o cap c e fz, v = .slice (some ⟨B, o, none⟩) len cap ∧ len ≤ cap ∧ Z B = some (.cells c e fz) ∧ o + cs.length ≤ c.size ∧ VRs Z φ cs (c.toList.drop o)
  | .lp cs off, v => ∃ B o c e fz, v = .pointer (some ⟨B, o + off, none⟩) ∧ Z B = some (.cells c e fz) ∧ o + cs.length ≤ c.size ∧ VRs Z φ cs (c.toList.drop o)
  | .sl b off len cap, v => v = .slice (some ⟨(φ b).blk, (φ b).base + off, none⟩) len (cap + (φ b).extra)
  | .ptr b off, v => v = .pointer (some ⟨(φ b).blk, (φ b).base + off, none⟩)
  | .nilS, v => v = .slice none 0 0
  | .nilP, v => v = .pointer none
  | .nilF, v => v = .nilFunc
  | .nilI, v => v = .nilIface
  | .fn f a b, v => ∃ x y : List Value, v = .func (.func f) ⟨x⟩ ⟨y⟩ ∧ x.length = a.length ∧ VRs Z φ a x ∧ y.length = b.length ∧ VRs Z φ b y
  | .agg cs, v => ∃ x : List Value, v = .agg ⟨x⟩ ∧ x.length = cs.length ∧ VRs Z φ cs x
  | .tup cs, v => ∃ x : List Value, v = .tuple ⟨x⟩ ∧ x.length = cs.length ∧ VRs Z φ cs x
  | .und, _ => True
/-- The first values of a list are the abstract ones. -/
def VRs (Z : Fz) (φ : Nat → Pl) : List AV → List Value → Prop
  | [], _ => True
  | x :: xs, y :: ys => VR Z φ x y ∧ VRs Z φ xs ys
  | _ :: _, [] => False
end

mutual
/-- Only rows of the heap below n are named, and none in what is frozen. -/
def Sc (n : Nat) : AV → Prop
  | .sl b _ _ _ => b < n
  | .ptr b _ => b < n
  | .lst _ cs => Scs 0 cs
  | .lp cs _ => Scs 0 cs
  | .fn _ a b => Scs n a ∧ Scs n b
  | .agg cs => Scs n cs
  | .tup cs => Scs n cs
  | _ => True
def Scs (n : Nat) : List AV → Prop
  | [] => True
  | x :: r => Sc n x ∧ Scs n r
end

variable {Z Z' : Fz} {φ φ' : Nat → Pl}

theorem VRs_iff {xs : List AV} : ∀ {ys : List Value}, VRs Z φ xs ys ↔ xs.length ≤ ys.length ∧ ∀ (i : Nat) (x : AV) (y : Value), xs[i]? = some x → ys[i]? = some y → VR Z φ x y := by
  induction xs with
  | nil => intro ys; simp [VRs]
  | cons a r ih =>
    intro ys
    cases ys with
    | nil => simp [VRs]
    | cons b s =>
      simp only [VRs, ih, List.length_cons, Nat.add_le_add_iff_right]
      constructor
      · rintro ⟨h1, h2, h3⟩
        refine ⟨h2, fun i x y hx hy => ?_⟩
        cases i with
        | zero => simp at hx hy; subst hx; subst hy; exact h1
        | succ i => simp at hx hy; exact h3 i x y hx hy
      · rintro ⟨h2, h3⟩
        exact ⟨h3 0 a b rfl rfl, h2, fun i x y hx hy => h3 (i + 1) x y (by simpa using hx) (by simpa using hy)⟩

theorem Scs_iff {n : Nat} {xs : List AV} : Scs n xs ↔ ∀ x ∈ xs, Sc n x := by
  induction xs with
  | nil => simp [Scs]
  | cons a r ih => simp [Scs, ih]

theorem Scs_get {n : Nat} {xs : List AV} (h : Scs n xs) {i : Nat} {x : AV} (hx : xs[i]? = some x) : Sc n x := Scs_iff.1 h x (List.mem_of_getElem? hx)

theorem VRs_get {xs : List AV} {ys : List Value} (h : VRs Z φ xs ys) {i : Nat} {x : AV} (hx : xs[i]? = some x) : ∃ y, ys[i]? = some y ∧ VR Z φ x y := by
  obtain ⟨h1, h2⟩ := VRs_iff.1 h
  obtain ⟨hi, _⟩ := List.getElem?_eq_some_iff.1 hx
  exact ⟨ys[i]'(by omega), by simp [show i < ys.length by omega], h2 i x _ hx (by simp [show i < ys.length by omega])⟩

/-! Where the places agree and more is frozen, a value stands for the same. -/
mutual
theorem VR_mono {n : Nat} (hφ : ∀ b, b < n → φ' b = φ b) (hZ : ∀ B o, Z B = some o → Z' B = some o) : ∀ (x : AV) (v : Value), Sc n x → VR Z φ x v → VR Z' φ' x v
  | .int .., _, _, h => h
  | .bool _, _, _, h => h
  | .str _, _, _, h => h
  | .lst len cs, v, hs, h => by
    simp only [VR, Sc] at *
    rcases h with h | ⟨B, o, cap, c, e, fz, h1, h2, h3, h5, h4⟩
    · exact .inl h
    · exact .inr ⟨B, o, cap, c, e, fz, h1, h2, hZ _ _ h3, h5, VRs_mono (n := 0) (fun b hb => absurd hb (by omega)) hZ cs _ hs h4⟩
  | .lp cs off, v, hs, h => by
    simp only [VR, Sc] at *
    obtain ⟨B, o, c, e, fz, h1, h3, h5, h4⟩ := h
    exact ⟨B, o, c, e, fz, h1, hZ _ _ h3, h5, VRs_mono (n := 0) (fun b hb => absurd hb (by omega)) hZ cs _ hs h4⟩
  | .sl b off len cap, v, hs, h => by simp only [VR, Sc] at *; rw [hφ b hs]; exact h
  | .ptr b off, v, hs, h => by simp only [VR, Sc] at *; rw [hφ b hs]; exact h
  | .nilS, _, _, h => h
  | .nilP, _, _, h => h
  | .nilF, _, _, h => h
  | .nilI, _, _, h => h
  | .fn f a b, v, hs, h => by
    simp only [VR, Sc] at *
    obtain ⟨x, y, h1, h2, h3, h4, h5⟩ := h
    exact ⟨x, y, h1, h2, VRs_mono hφ hZ a _ hs.1 h3, h4, VRs_mono hφ hZ b _ hs.2 h5⟩
  | .agg cs, v, hs, h => by
    simp only [VR, Sc] at *
    obtain ⟨x, h1, h2, h3⟩ := h
    exact ⟨x, h1, h2, VRs_mono hφ hZ cs _ hs h3⟩
  | .tup cs, v, hs, h => by
    simp only [VR, Sc] at *
    obtain ⟨x, h1, h2, h3⟩ := h
    exact ⟨x, h1, h2, VRs_mono hφ hZ cs _ hs h3⟩
  | .und, _, _, _ => trivial
theorem VRs_mono {n : Nat} (hφ : ∀ b, b < n → φ' b = φ b) (hZ : ∀ B o, Z B = some o → Z' B = some o) : ∀ (xs : List AV) (vs : List Value), Scs n xs → VRs Z φ xs vs → VRs Z' φ' xs vs
  | [], _, _, _ => trivial
  | x :: r, y :: s, hs, h => by simp only [VRs, Scs] at *; exact ⟨VR_mono hφ hZ x y hs.1 h.1, VRs_mono hφ hZ r s hs.2 h.2⟩
  | _ :: _, [], _, h => h.elim
end

mutual
theorem Sc_mono {n m : Nat} (hnm : n ≤ m) : ∀ (x : AV), Sc n x → Sc m x
  | .int .., _ => trivial
  | .bool _, _ => trivial
  | .str _, _ => trivial
  | .lst len cs, hs => hs
  | .lp cs off, hs => hs
  | .sl b off len cap, hs => by simp only [Sc] at *; omega
  | .ptr b off, hs => by simp only [Sc] at *; omega
  | .nilS, _ => trivial
  | .nilP, _ => trivial
  | .nilF, _ => trivial
  | .nilI, _ => trivial
  | .fn f a b, hs => by simp only [Sc] at *; exact ⟨Scs_mono hnm a hs.1, Scs_mono hnm b hs.2⟩
  | .agg cs, hs => by simp only [Sc] at *; exact Scs_mono hnm cs hs
  | .tup cs, hs => by simp only [Sc] at *; exact Scs_mono hnm cs hs
  | .und, _ => trivial
theorem Scs_mono {n m : Nat} (hnm : n ≤ m) : ∀ (xs : List AV), Scs n xs → Scs m xs
  | [], _ => trivial
  | x :: r, hs => by simp only [Scs] at *; exact ⟨Sc_mono hnm x hs.1, Scs_mono hnm r hs.2⟩
end

mutual
/-- A value that names no row of the heap. -/
theorem Sc_pure {n : Nat} : ∀ (x : AV), Sc n x → x.pure = true → Sc 0 x
  | .int .., _, _ => trivial
  | .bool _, _, _ => trivial
  | .str _, _, _ => trivial
  | .lst len cs, hs, _ => hs
  | .lp cs off, hs, _ => hs
  | .sl .., _, h => by simp [AV.pure] at h
  | .ptr .., _, h => by simp [AV.pure] at h
  | .nilS, _, _ => trivial
  | .nilP, _, _ => trivial
  | .nilF, _, _ => trivial
  | .nilI, _, _ => trivial
  | .fn f a b, hs, h => by simp only [Sc, AV.pure, Bool.and_eq_true] at *; exact ⟨Scs_pure a hs.1 h.1, Scs_pure b hs.2 h.2⟩
  | .agg cs, hs, h => by simp only [Sc, AV.pure] at *; exact Scs_pure cs hs h
  | .tup cs, hs, h => by simp only [Sc, AV.pure] at *; exact Scs_pure cs hs h
  | .und, _, _ => trivial
theorem Scs_pure {n : Nat} : ∀ (xs : List AV), Scs n xs → pures xs = true → Scs 0 xs
  | [], _, _ => trivial
  | x :: r, hs, h => by simp only [Scs, pures, Bool.and_eq_true] at *; exact ⟨Sc_pure x hs.1 h.1, Scs_pure r hs.2 h.2⟩
end

mutual
/-- A value without memory stands for the same whatever is frozen. -/
theorem VR_scal : ∀ (x : AV) (v : Value), x.scal = true → VR Z φ x v → VR Z' φ' x v
  | .int .., _, _, h => h
  | .bool _, _, _, h => h
  | .str _, _, _, h => h
  | .lst .., _, h, _ => by simp [AV.scal] at h
  | .lp .., _, h, _ => by simp [AV.scal] at h
  | .sl .., _, h, _ => by simp [AV.scal] at h
  | .ptr .., _, h, _ => by simp [AV.scal] at h
  | .nilS, _, _, h => h
  | .nilP, _, _, h => h
  | .nilF, _, _, h => h
  | .nilI, _, _, h => h
  | .fn .., _, h, _ => by simp [AV.scal] at h
  | .agg cs, v, hs, h => by
    simp only [VR, AV.scal] at *
    obtain ⟨x, h1, h2, h3⟩ := h
    exact ⟨x, h1, h2, VRs_scal cs _ hs h3⟩
  | .tup cs, v, hs, h => by
    simp only [VR, AV.scal] at *
    obtain ⟨x, h1, h2, h3⟩ := h
    exact ⟨x, h1, h2, VRs_scal cs _ hs h3⟩
  | .und, _, _, _ => trivial
theorem VRs_scal : ∀ (xs : List AV) (vs : List Value), scals xs = true → VRs Z φ xs vs → VRs Z' φ' xs vs
  | [], _, _, _ => trivial
  | x :: r, y :: s, hs, h => by simp only [VRs, scals, Bool.and_eq_true] at *; exact ⟨VR_scal x y hs.1 h.1, VRs_scal r s hs.2 h.2⟩
  | _ :: _, [], _, h => h.elim
end

mutual
theorem Sc_scal : ∀ (x : AV), x.scal = true → Sc 0 x
  | .int .., _ => trivial
  | .bool _, _ => trivial
  | .str _, _ => trivial
  | .lst .., h => by simp [AV.scal] at h
  | .lp .., h => by simp [AV.scal] at h
  | .sl .., h => by simp [AV.scal] at h
  | .ptr .., h => by simp [AV.scal] at h
  | .nilS, _ => trivial
  | .nilP, _ => trivial
  | .nilF, _ => trivial
  | .nilI, _ => trivial
  | .fn .., h => by simp [AV.scal] at h
  | .agg cs, h => by simp only [Sc, AV.scal] at *; exact Scs_scal cs h
  | .tup cs, h => by simp only [Sc, AV.scal] at *; exact Scs_scal cs h
  | .und, _ => trivial
theorem Scs_scal : ∀ (xs : List AV), scals xs = true → Scs 0 xs
  | [], _ => trivial
  | x :: r, h => by simp only [Scs, scals, Bool.and_eq_true] at *; exact ⟨Sc_scal x h.1, Scs_scal r h.2⟩
end

/-! ### The heap -/
theorem hget_hset_same {h : List (Nat × Blk)} {b : Nat} {x : Blk} (hb : ∃ y, hget h b = some y) : hget (hset h b x) b = some x := by
  induction h with
  | nil => simp [hget] at hb
  | cons p r ih =>
    obtain ⟨i, y⟩ := p
    simp only [hget, hset, nif_eq] at *
    by_cases hi : i = b
    · simp [hi, hget, nif_eq]
    · simp only [hi, if_false] at hb ⊢; simp only [hget, hi, if_false, nif_eq]; exact ih hb

theorem hget_hset_ne {h : List (Nat × Blk)} {b c : Nat} {x : Blk} (hbc : b ≠ c) : hget (hset h b x) c = hget h c := by
  induction h with
  | nil => rfl
  | cons p r ih =>
    obtain ⟨i, y⟩ := p
    simp only [hset, nif_eq]
    by_cases hi : i = b
    · subst hi; simp [hget, hbc, nif_eq]
    · simp only [hi, if_false, hget, ih, nif_eq]

theorem hget_hdel_same {h : List (Nat × Blk)} {b : Nat} : hget (hdel h b) b = none := by
  induction h with
  | nil => rfl
  | cons p r ih =>
    obtain ⟨i, y⟩ := p
    simp only [hdel, nif_eq]
    by_cases hi : i = b
    · simp [hi, ih]
    · simp [hi, hget, ih, nif_eq]

theorem hget_hdel_ne {h : List (Nat × Blk)} {b c : Nat} (hbc : b ≠ c) : hget (hdel h b) c = hget h c := by
  induction h with
  | nil => rfl
  | cons p r ih =>
    obtain ⟨i, y⟩ := p
    simp only [hdel, nif_eq]
    by_cases hi : i = b
    · subst hi; simp [hget, hbc, ih, nif_eq]
    · simp only [hi, if_false, hget, ih, nif_eq]

theorem get_push {σ : St} {x : Blk} {b : Nat} : (σ.push x).get b = if σ.n = b then some x else σ.get b := nif_eq _ _ _ _
theorem get_set_same {σ : St} {b : Nat} {x : Blk} (h : ∃ y, σ.get b = some y) : (σ.set b x).get b = some x := hget_hset_same h
theorem get_set_ne {σ : St} {b c : Nat} {x : Blk} (h : b ≠ c) : (σ.set b x).get c = σ.get c := hget_hset_ne h
theorem get_del_same {σ : St} {b : Nat} : (σ.del b).get b = none := hget_hdel_same
theorem get_del_ne {σ : St} {b c : Nat} (h : b ≠ c) : (σ.del b).get c = σ.get c := hget_hdel_ne h
theorem get_del_some {σ : St} {b c : Nat} {x : Blk} (h : (σ.del b).get c = some x) : b ≠ c ∧ σ.get c = some x := by
  by_cases hbc : b = c
  · subst hbc; rw [get_del_same] at h; cases h
  · rw [get_del_ne hbc] at h; exact ⟨hbc, h⟩
theorem get_dels_some {c : Nat} {x : Blk} : ∀ (l : List Nat) (σ : St), (σ.dels l).get c = some x → c ∉ l ∧ σ.get c = some x
  | [], σ, h => ⟨by simp, h⟩
  | b :: r, σ, h => by
    obtain ⟨h1, h2⟩ := get_dels_some r (σ.del b) h
    obtain ⟨h3, h4⟩ := get_del_some h2
    exact ⟨by simp [h1, Ne.symm h3], h4⟩
theorem n_dels : ∀ (l : List Nat) (σ : St), (σ.dels l).n = σ.n
  | [], _ => rfl
  | b :: r, σ => by show ((σ.del b).dels r).n = _; rw [n_dels r]; rfl

/-! ### The world -/
/-- A row of the abstract heap lies in the world. -/
def Real (Z : Fz) (φ : Nat → Pl) (x : Blk) (p : Pl) (w : World) : Prop :=
  ∃ c e fz, w.heap[p.blk]? = some (.cells c e fz) ∧ VRs Z φ x.cells (c.toList.drop p.base) ∧ p.base + x.cells.length + p.extra * (x.esz % 7000000000) ≤ c.size ∧
    (∀ j, j < c.size → (fz.1 ≤ j && j < fz.2) = false) ∧ (x.opn = false → p.extra = 0) ∧
    -- a row whose cells' size is told so great is a variable of a type that is told with it
    (7000000000 ≤ x.esz → e = x.esz / 7000000000 - 1 ∧ p.base = 0 ∧ (x.esz % 7000000000 = 2 → c.size = 2))

structure Inv (Z : Fz) (φ : Nat → Pl) (σ : St) (w : World) : Prop where
  z : ∀ B o, Z B = some o → w.heap[B]? = some o
  r : ∀ b x, σ.get b = some x → Real Z φ x (φ b) w
  nz : ∀ b x, σ.get b = some x → Z (φ b).blk = none
  inj : ∀ b b' x x', σ.get b = some x → σ.get b' = some x' → b ≠ b' → (φ b).blk ≠ (φ b').blk
  sc : ∀ b x, σ.get b = some x → b < σ.n ∧ Scs σ.n x.cells

/-- The blocks that a heap may write. -/
def FP (σ : St) (φ : Nat → Pl) (B : Nat) : Prop := ∃ b x, σ.get b = some x ∧ (φ b).blk = B

structure Ext (Z : Fz) (φ : Nat → Pl) (σ : St) (w : World) (Z' : Fz) (φ' : Nat → Pl) (σ' : St) (w' : World) : Prop where
  zz : ∀ B o, Z B = some o → Z' B = some o
  zn : ∀ B, Z' B ≠ none → Z B ≠ none ∨ w.heap.size ≤ B ∨ FP σ φ B
  ph : ∀ b, b < σ.n → φ' b = φ b
  nn : σ.n ≤ σ'.n
  sz : w.heap.size ≤ w'.heap.size
  fr : ∀ B, B < w.heap.size → ¬ FP σ φ B → w'.heap[B]? = w.heap[B]?
  fp : ∀ B, FP σ' φ' B → w.heap.size ≤ B ∨ FP σ φ B
  os : w'.os = w.os
  tape : w'.tape = w.tape
  output : w'.output = w.output

theorem Ext.refl (Z : Fz) (φ : Nat → Pl) (σ : St) (w : World) : Ext Z φ σ w Z φ σ w :=
  ⟨fun _ _ h => h, fun _ h => .inl h, fun _ _ => rfl, Nat.le_refl _, Nat.le_refl _, fun _ _ _ => rfl, fun _ h => .inr h, rfl, rfl, rfl⟩

theorem Ext.trans {Z₁ Z₂ Z₃ : Fz} {φ₁ φ₂ φ₃ : Nat → Pl} {σ₁ σ₂ σ₃ : St} {w₁ w₂ w₃ : World} (h : Ext Z₁ φ₁ σ₁ w₁ Z₂ φ₂ σ₂ w₂) (k : Ext Z₂ φ₂ σ₂ w₂ Z₃ φ₃ σ₃ w₃) : Ext Z₁ φ₁ σ₁ w₁ Z₃ φ₃ σ₃ w₃ where
  zz B o hB := k.zz _ _ (h.zz _ _ hB)
  zn B hB := by
    rcases k.zn B hB with h1 | h1 | h1
    · exact h.zn B h1
    · exact .inr (.inl (Nat.le_trans h.sz h1))
    · exact .inr (h.fp B h1)
  ph b hb := (k.ph b (Nat.lt_of_lt_of_le hb h.nn)).trans (h.ph b hb)
  nn := Nat.le_trans h.nn k.nn
  sz := Nat.le_trans h.sz k.sz
  fr B hB hn := by
    rw [k.fr B (Nat.lt_of_lt_of_le hB h.sz) (fun hf => (h.fp B hf).elim (fun h' => by omega) hn)]
    exact h.fr B hB hn
  fp B hB := (k.fp B hB).elim (fun h' => .inl (Nat.le_trans h.sz h')) (fun h' => h.fp B h')
  os := k.os.trans h.os
  tape := k.tape.trans h.tape
  output := k.output.trans h.output

theorem Ext.vr {Z Z' : Fz} {φ φ' : Nat → Pl} {σ σ' : St} {w w' : World} (h : Ext Z φ σ w Z' φ' σ' w') {x : AV} {v : Value} (hs : Sc σ.n x) (hv : VR Z φ x v) : VR Z' φ' x v :=
  VR_mono h.ph h.zz x v hs hv

/-- A draw changes nothing. -/
theorem Inv.drew {Z : Fz} {φ : Nat → Pl} {σ : St} {w : World} (h : Inv Z φ σ w) : Inv Z φ σ w.drew := ⟨h.z, h.r, h.nz, h.inj, h.sc⟩
theorem Ext.drew {Z : Fz} {φ : Nat → Pl} {σ : St} {w : World} : Ext Z φ σ w Z φ σ w.drew :=
  ⟨fun _ _ h => h, fun _ h => .inl h, fun _ _ => rfl, Nat.le_refl _, Nat.le_refl _, fun _ _ _ => rfl, fun _ h => .inr h, rfl, rfl, rfl⟩

/-- What an operation must hand on. -/
def Good (Z : Fz) (φ : Nat → Pl) (σ : St) (w : World) (v : AV) (σ' : St) (Z' : Fz) (φ' : Nat → Pl) (u : Value) (w' : World) : Prop :=
  VR Z' φ' v u ∧ Sc σ'.n v ∧ Inv Z' φ' σ' w' ∧ Ext Z φ σ w Z' φ' σ' w'

end Go.Abs
