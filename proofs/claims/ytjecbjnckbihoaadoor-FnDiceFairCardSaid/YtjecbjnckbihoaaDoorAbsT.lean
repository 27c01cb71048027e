/- Values that came in, of numbers, texts, structs and slices of such: opened whole. Nothing is claimed here; no condition. -/
import Derived.Test.YtjecbjnckbihoaaDoorAbsZ
namespace Go.Abs
open Go Go.RowKit Go.ChangeShapes Go.WideShapes

variable {H : Type} {enc : TypeId × Value → H} {P : Program} {W : World}

/-- The shape of one cell. -/
inductive Sh where
  | int (k : IntKind)
  | bool
  | str
  | sl (e : List Sh)

/-- The fields' shapes, one behind the other. -/
def shFields (f : TypeId → Option (List Sh)) : Nat → List Field → Option (List Sh)
  | _, [] => some []
  | o, x :: r => if x.offset = o then
      match f x.type with
      | some s => match shFields f (o + s.length) r with
        | some t => some (s ++ t)
        | none => none
      | none => none
    else none

/-- The shapes of a type's cells. -/
def shOf (P : Program) : Nat → TypeId → Option (List Sh)
  | 0, _ => none
  | d + 1, t => match P.underlying t with
    | some (.int k) => if P.cellsOf t = 1 then some [.int k] else none
    | some .bool => if P.cellsOf t = 1 then some [.bool] else none
    | some .string => if P.cellsOf t = 1 then some [.str] else none
    | some (.slice e) => match shOf P d e with
      | some s => if P.cellsOf t = 1 ∧ P.cellsOf e = s.length ∧ 0 < s.length then some [.sl s] else none
      | none => none
    | some (.struct fs) => match shFields (fun u => match shOf P d u with | some s => if P.cellsOf u = s.length then some s else none | none => none) 0 fs.toList with
      | some s => if P.cellsOf t = s.length then some s else none
      | none => none
    | _ => none

mutual
/-- A value of a shape. -/
def Fit : Sh → AV → Prop
  | .int k, v => ∃ n, v = .int k n ∧ (Lit.int k n).wf = true
  | .bool, v => ∃ b, v = .bool b
  | .str, v => ∃ s, v = .str s
  | .sl e, v => ∃ rows : List (List AV), v = .lst rows.length rows.flatten ∧ rows.length ≤ maxLen ∧ ∀ r ∈ rows, Fits e r
def Fits : List Sh → List AV → Prop
  | [], l => l = []
  | s :: r, l => ∃ v t, l = v :: t ∧ Fit s v ∧ Fits r t
end

theorem Fits.length : ∀ {s : List Sh} {l : List AV}, Fits s l → l.length = s.length
  | [], l, h => by simp only [Fits] at h; subst h; rfl
  | _ :: r, l, h => by
    simp only [Fits] at h
    obtain ⟨v, t, rfl, _, h⟩ := h
    simp [h.length]
theorem Fits.append : ∀ {s t : List Sh} {l m : List AV}, Fits s l → Fits t m → Fits (s ++ t) (l ++ m)
  | [], _, l, _, h, g => by simp only [Fits] at h; subst h; exact g
  | _ :: r, _, l, _, h, g => by
    simp only [Fits] at h
    obtain ⟨v, t, rfl, h1, h2⟩ := h
    simp only [List.cons_append, Fits]
    exact ⟨v, _, rfl, h1, h2.append g⟩
theorem Scs_app2 {n : Nat} : ∀ {l m : List AV}, Scs n l → Scs n m → Scs n (l ++ m)
  | [], _, _, h => h
  | _ :: _, _, h, g => ⟨h.1, Scs_app2 h.2 g⟩
theorem Scs_flatten {n : Nat} : ∀ {rows : List (List AV)}, (∀ r ∈ rows, Scs n r) → Scs n rows.flatten
  | [], _ => trivial
  | r :: t, h => Scs_app2 (h r (by simp)) (Scs_flatten fun x hx => h x (by simp [hx]))
theorem VRs_app2 {Z : Fz} {φ : Nat → Pl} : ∀ {l m : List AV} {x : List Value}, VRs Z φ l x → VRs Z φ m (x.drop l.length) → VRs Z φ (l ++ m) x
  | [], _, _, _, h => by simpa using h
  | _ :: _, _, [], h, _ => h.elim
  | _ :: _, _, _ :: _, h, g => ⟨h.1, VRs_app2 h.2 (by simpa using g)⟩
theorem VRs_of_take {Z : Fz} {φ : Nat → Pl} : ∀ {l : List AV} {n : Nat} {x : List Value}, VRs Z φ l (x.take n) → VRs Z φ l x
  | [], _, _, _ => trivial
  | _ :: _, 0, _, h => h.elim
  | _ :: _, _ + 1, [], h => h.elim
  | _ :: _, _ + 1, _ :: _, h => ⟨h.1, VRs_of_take h.2⟩
/-- Rows of one width, each at its place. -/
theorem VRs_flatten {Z : Fz} {φ : Nat → Pl} {w : Nat} : ∀ {rows : List (List AV)} {x : List Value}, (∀ r ∈ rows, r.length = w) → (∀ (i : Nat) (r : List AV), rows[i]? = some r → VRs Z φ r (x.drop (i * w))) → VRs Z φ rows.flatten x
  | [], _, _, _ => trivial
  | r :: t, x, hl, h => by
    have hr := hl r (by simp)
    refine VRs_app2 (by simpa using h 0 r rfl) (VRs_flatten (w := w) (fun y hy => hl y (List.mem_cons_of_mem _ hy)) fun i y hy => ?_)
    have := h (i + 1) y (by simpa using hy)
    rw [List.drop_drop, hr, show w + i * w = (i + 1) * w by rw [Nat.add_mul]; omega]
    exact this

/-- What opening owes. -/
def Opens (enc : TypeId × Value → H) (P : Program) (W : World) (t : TypeId) (s : List Sh) : Prop :=
  ∀ (fuel : Nat) (cs : List Value) (x : DataW H × List MemPlace), DataW.trod enc P W 0 (fun _ => true) true fuel t cs = some x →
    ∃ as, Fits s as ∧ as.length = cs.length ∧ Scs 0 as ∧ ∀ φ, VRs (fun B => W.heap[B]?) φ as cs

theorem opens_fields {n : Nat} {cs : List Value} {f : TypeId → Option (List Sh)} (hf : ∀ u s, f u = some s → P.cellsOf u = s.length ∧ Opens enc P W u s) : ∀ (fs : List Field) (o : Nat) (s : List Sh), shFields f o fs = some s →
    (∀ x ∈ fs, ∃ y, DataW.trod enc P W 0 (fun _ => true) true n x.type ((cs.drop x.offset).take (P.cellsOf x.type)) = some y) → cs.length = o + s.length →
    ∃ as, Fits s as ∧ Scs 0 as ∧ ∀ φ, VRs (fun B => W.heap[B]?) φ as (cs.drop o)
  | [], o, s, h, _, _ => by
    simp only [shFields] at h; cases h
    exact ⟨[], rfl, trivial, fun _ => trivial⟩
  | x :: r, o, s, h, hx, hl => by
    simp only [shFields] at h
    split at h
    case isFalse => cases h
    rename_i ho
    split at h
    case h_2 => cases h
    rename_i s1 h1
    split at h
    case h_2 => cases h
    rename_i s2 h2
    cases h
    obtain ⟨hc, hop⟩ := hf _ _ h1
    obtain ⟨y, hy⟩ := hx x (by simp)
    obtain ⟨a1, f1, l1, c1, v1⟩ := hop _ _ _ hy
    obtain ⟨a2, f2, c2, v2⟩ := opens_fields hf r (o + s1.length) s2 h2 (fun z hz => hx z (by simp [hz])) (by simp at hl; omega)
    refine ⟨a1 ++ a2, f1.append f2, Scs_app2 c1 c2, fun φ => VRs_app2 (VRs_of_take (n := P.cellsOf x.type) (by rw [ho] at v1; exact v1 φ)) ?_⟩
    rw [List.drop_drop, f1.length]
    exact v2 φ

theorem opens : ∀ (d : Nat) (t : TypeId) (s : List Sh), shOf P d t = some s → Opens enc P W t s
  | 0, _, _, h => by simp [shOf] at h
  | d + 1, t, s, h => by
    intro fuel cs x hd
    unfold shOf at h
    split at h
    · rename_i k ht
      split at h
      case isFalse => cases h
      cases h
      obtain ⟨n, rfl, _, hw⟩ := DataW.trod_int ht hd
      exact ⟨[.int k n], ⟨_, _, rfl, ⟨n, rfl, hw⟩, rfl⟩, rfl, ⟨trivial, trivial⟩, fun φ => ⟨rfl, trivial⟩⟩
    · rename_i ht
      split at h
      case isFalse => cases h
      cases h
      obtain ⟨b, rfl, _⟩ := DataW.trod_bool ht hd
      exact ⟨[.bool b], ⟨_, _, rfl, ⟨b, rfl⟩, rfl⟩, rfl, ⟨trivial, trivial⟩, fun φ => ⟨rfl, trivial⟩⟩
    · rename_i ht
      split at h
      case isFalse => cases h
      cases h
      obtain ⟨b, rfl, _⟩ := DataW.trod_string ht hd
      exact ⟨[.str b.data.toList], ⟨_, _, rfl, ⟨_, rfl⟩, rfl⟩, rfl, ⟨trivial, trivial⟩, fun φ => ⟨rfl, trivial⟩⟩
    · rename_i e ht
      split at h
      case h_2 => cases h
      rename_i s1 h1
      split at h
      case isFalse => cases h
      rename_i hc
      obtain ⟨hc1, hc2, hc3⟩ := hc
      cases h
      rcases Deep.open_slice ht hd with ⟨rfl, _⟩ | ⟨a, len, cap, m, n, D, Pl, rfl, _, hlc, hml, hm, _, hV⟩
      · exact ⟨[.lst 0 []], ⟨_, _, rfl, ⟨[], rfl, by simp, by simp⟩, rfl⟩, rfl, ⟨trivial, trivial⟩, fun φ => ⟨.inl ⟨rfl, rfl, none, 0, rfl⟩, trivial⟩⟩
      simp only [if_true] at hm
      subst hm
      obtain ⟨R, hR⟩ := Deep.choose_lt (α := List AV) (p := fun i as => Fits s1 as ∧ Scs 0 as ∧ ∃ cs', W.cells? 0 (a.add (i * P.cellsOf e)) (P.cellsOf e) = some cs' ∧ ∀ φ, VRs (fun B => W.heap[B]?) φ as cs') (fun i hi => by
        obtain ⟨cs', h2, h3⟩ := hV i hi
        obtain ⟨as, f1, _, c1, v1⟩ := opens d e s1 h1 _ _ _ h3
        exact ⟨as, f1, c1, cs', h2, v1⟩)
      have hrow : ∀ r ∈ (List.range len).map R, Fits s1 r := fun r hr => by
        obtain ⟨i, hi, rfl⟩ := List.mem_map.1 hr
        exact (hR i (by have := List.mem_range.1 hi; omega)).1
      have hlen : ((List.range len).map R).length = len := by simp
      refine ⟨[.lst len ((List.range len).map R).flatten], ⟨_, _, rfl, ⟨(List.range len).map R, by rw [hlen], by rw [hlen]; omega, hrow⟩, rfl⟩, rfl, ⟨Scs_flatten fun r hr => ?_, trivial⟩, fun φ => ⟨?_, trivial⟩⟩
      · obtain ⟨i, hi, rfl⟩ := List.mem_map.1 hr
        exact (hR i (by have := List.mem_range.1 hi; omega)).2.1
      rcases Nat.eq_zero_or_pos len with h0 | hpos
      · subst h0
        exact .inl ⟨rfl, rfl, _, _, rfl⟩
      -- the block
      have hcell : ∀ i, i < len → ∃ cs', W.cells? 0 (a.add (i * s1.length)) s1.length = some cs' ∧ ∀ φ, VRs (fun B => W.heap[B]?) φ (R i) cs' := fun i hi => by
        have := (hR i (by omega)).2.2
        rwa [hc2] at this
      obtain ⟨B, o, sp⟩ := a
      obtain ⟨c, el, fz, hblk, hsp⟩ : ∃ c el fz, W.heap[B]? = some (.cells c el fz) ∧ sp = none := by
        obtain ⟨cs', h2, _⟩ := hcell 0 hpos
        obtain ⟨_, h3, h4⟩ := World.cells?_some h2
        have h5 := h4 0 hc3
        rw [List.getElem?_eq_getElem (by omega)] at h5
        have ha : ((Addr.mk B o sp).add (0 * s1.length)).add 0 = ⟨B, o, sp⟩ := by rw [Nat.zero_mul]; rfl
        rw [ha] at h5
        unfold World.cell? at h5
        split at h5
        · rename_i c el fz hb
          refine ⟨c, el, fz, hb, ?_⟩
          cases sp with
          | none => rfl
          | some q => simp at h5
        · cases h5
      subst hsp
      have hadd : ∀ n : Nat, (Addr.mk B o none).add n = ⟨B, o + n, none⟩ := fun n => by
        unfold Addr.add
        split
        · rename_i h0; subst h0; rfl
        · rfl
      have hadd2 : ∀ n m : Nat, ((Addr.mk B o none).add n).add m = ⟨B, o + n + m, none⟩ := fun n m => by
        rw [hadd]; unfold Addr.add
        split
        · rename_i h0; subst h0; rfl
        · rfl
      have hat : ∀ i, i < len → ∃ cs', cs'.length = s1.length ∧ (c.toList.drop (o + i * s1.length)).take s1.length = cs' ∧ ∀ φ, VRs (fun B => W.heap[B]?) φ (R i) cs' := fun i hi => by
        obtain ⟨cs', h2, hv⟩ := hcell i hi
        obtain ⟨_, h3, h4⟩ := World.cells?_some h2
        refine ⟨cs', h3, ?_, hv⟩
        refine List.ext_getElem? fun j => ?_
        rw [List.getElem?_take]
        split
        · rename_i hj
          have h5 := h4 j hj
          rw [hadd2] at h5
          unfold World.cell? at h5
          simp only [hblk, Option.isSome_none] at h5
          rw [List.getElem?_drop, Array.getElem?_toList, ← h5]
          rfl
        · rw [List.getElem?_eq_none (by omega)]
      have hsz : o + len * s1.length ≤ c.size := by
        obtain ⟨cs', h2, h3, _⟩ := hat (len - 1) (by omega)
        have h4 := congrArg List.length h3
        rw [h2, List.length_take, List.length_drop, show c.toList.length = c.size from Array.length_toList] at h4
        have : len * s1.length = (len - 1) * s1.length + s1.length := by
          obtain ⟨k, rfl⟩ : ∃ k, len = k + 1 := ⟨len - 1, by omega⟩
          rw [Nat.add_mul]; simp
        omega
      have hfl : ((List.range len).map R).flatten.length = len * s1.length := by
        have : ∀ (rows : List (List AV)), (∀ r ∈ rows, Fits s1 r) → rows.flatten.length = rows.length * s1.length := by
          intro rows
          induction rows with
          | nil => intro _; simp
          | cons r t ih =>
            intro h
            rw [List.flatten_cons, List.length_append, ih (fun x hx => h x (by simp [hx])), (h r (by simp)).length, List.length_cons, Nat.add_mul]
            omega
        rw [this _ hrow, hlen]
      refine .inr ⟨B, o, _, c, el, fz, rfl, hlc, hblk, by rw [hfl]; exact hsz, VRs_flatten (w := s1.length) (fun r hr => (hrow r hr).length) fun i r hi => ?_⟩
      have hi' : i < len := by have := (List.getElem?_eq_some_iff.1 hi).1; simpa using this
      have hr : r = R i := by
        rw [List.getElem?_map, List.getElem?_range hi'] at hi
        simpa using hi.symm
      subst hr
      obtain ⟨cs', _, h3, hv⟩ := hat i hi'
      rw [List.drop_drop]
      refine VRs_of_take (n := s1.length) ?_
      rw [h3]
      exact hv φ
    · rename_i fs ht
      split at h
      case h_2 => cases h
      rename_i s1 h1
      split at h
      case isFalse => cases h
      rename_i hc
      cases h
      obtain ⟨xs, n, _, _, hl, hlen, hf⟩ := DataW.trod_struct ht hd
      rw [hc] at hl
      obtain ⟨as, f1, c1, v1⟩ := opens_fields (enc := enc) (P := P) (W := W) (n := n) (cs := cs) (f := fun u => match shOf P d u with | some s => if P.cellsOf u = s.length then some s else none | none => none) (fun u s hu => by
        split at hu
        case h_2 => cases hu
        rename_i s2 h2
        split at hu
        case isFalse => cases hu
        rename_i h3
        cases hu
        exact ⟨h3, opens d u _ h2⟩) fs.toList 0 s h1 (fun y hy => by
          obtain ⟨i, hi, rfl⟩ := List.getElem_of_mem hy
          have hi' : i < fs.size := by simpa using hi
          have := hf i fs[i] (by simp [hi'])
          rw [List.getElem?_eq_getElem (by omega)] at this
          exact ⟨_, by simpa using this⟩) (by omega)
      exact ⟨as, f1, by rw [f1.length]; omega, c1, fun φ => by simpa using v1 φ⟩
    · cases h

/-- An argument that is one cell. -/
theorem open_cell {d : Nat} {t : TypeId} {s : Sh} {v : Value} {x : DataW H} {ps : List MemPlace} (hs : shOf P d t = some [s]) (hv : v.cells = #[v]) (h : DataW.Trod enc P W 0 (fun _ => true) true t v x ps) : ∃ a, Fit s a ∧ Sc 0 a ∧ ∀ φ, VR (fun B => W.heap[B]?) φ a v := by
  obtain ⟨fuel, h⟩ := h
  obtain ⟨as, f, _, c, r⟩ := opens d t [s] hs _ _ _ h
  simp only [Fits] at f
  obtain ⟨a, _, rfl, f, rfl⟩ := f
  refine ⟨a, f, c.1, fun φ => ?_⟩
  have := r φ
  rw [hv] at this
  exact this.1
theorem slice_cells (a : Option Addr) (n m : Nat) : (Value.slice a n m).cells = #[.slice a n m] := rfl
/-- An argument that is a struct. -/
theorem open_agg {d : Nat} {t : TypeId} {s : List Sh} {cs : Array Value} {x : DataW H} {ps : List MemPlace} (hs : shOf P d t = some s) (h : DataW.Trod enc P W 0 (fun _ => true) true t (.agg cs) x ps) : ∃ as, Fits s as ∧ Scs 0 as ∧ ∀ φ, VR (fun B => W.heap[B]?) φ (.agg as) (.agg cs) := by
  obtain ⟨fuel, h⟩ := h
  obtain ⟨as, f, l, c, r⟩ := opens d t s hs _ _ _ h
  exact ⟨as, f, c, fun φ => ⟨cs.toList, by simp, l.symm, r φ⟩⟩
theorem fit_ints {k : IntKind} {a : AV} (h : Fit (.sl [.int k]) a) : ∃ l : List Int, a = .lst l.length (intsK k l) ∧ l.length ≤ maxLen ∧ ∀ x ∈ l, (Lit.int k x).wf = true := by
  simp only [Fit] at h
  obtain ⟨rows, rfl, hm, h⟩ := h
  have : ∀ rows : List (List AV), (∀ r ∈ rows, Fits [.int k] r) → ∃ l : List Int, l.length = rows.length ∧ rows.flatten = intsK k l ∧ ∀ x ∈ l, (Lit.int k x).wf = true := by
    intro rows
    induction rows with
    | nil => intro _; exact ⟨[], rfl, rfl, by simp⟩
    | cons r t ih =>
      intro h
      obtain ⟨l, h1, h2, h3⟩ := ih fun y hy => h y (by simp [hy])
      have h4 := h r (by simp)
      simp only [Fits, Fit] at h4
      obtain ⟨_, _, rfl, ⟨n, rfl, hn⟩, rfl⟩ := h4
      exact ⟨n :: l, by simp [h1], by simp [h2, intsK], fun x hx => by rcases List.mem_cons.1 hx with rfl | hx; exact hn; exact h3 x hx⟩
  obtain ⟨l, h1, h2, h3⟩ := this rows h
  exact ⟨l, by rw [h1, h2], by omega, h3⟩
end Go.Abs
