/- From a law's contract to the row's step, where arguments are numbers and lists of numbers. Nothing is claimed here; no condition. -/
import Derived.Test.YtjecbjnckbihoaaDoorAbsX
import Derived.Test.YtjecbjnckbihoaaDoorAbsY
import Derived.Deep.Slices
namespace Go.Abs
open Go Go.RowKit Go.ChangeShapes Go.WideShapes

variable {H : Type} {enc : TypeId × Value → H} {P : Program} {W : World}

theorem calls_V {T : Tab} (hT : TabOK P T) {f : FuncId} {args : List AV} (h : FnV T f args (.bool true)) (hfz : mapO (frzV ⟨[], 0⟩ frzDepth) args = some args) {us : Array Value} {φ : Nat → Pl}
    (hv : VRs (fun B => W.heap[B]?) φ args us.toList) (hsz : us.size = args.length) (hs : Scs 0 args) : Calls P f us W fun e w' => e = .returned (.bool true) ∧ Below W.heap.size W w' :=
  calls_true_I hT (h ⟨[], 0⟩ args hfz) (fun _ _ h => h) hv hsz hs

theorem Scs_ints (n : Nat) : ∀ (l : List Int), Scs n (ints l)
  | [] => trivial
  | _ :: r => ⟨trivial, Scs_ints n r⟩

theorem trod_int_wf {base : Nat} {sp : Nat → Bool} {held : Bool} {t : TypeId} {k : IntKind} {fuel : Nat} {c : Value} {y : DataW H × List MemPlace} (ht : P.underlying t = some (.int k)) (h : DataW.trod enc P W base sp held fuel t [c] = some y) : ∃ n, c = .int k n ∧ (Lit.int k n).wf = true := by
  cases fuel with
  | zero => simp [DataW.trod] at h
  | succ m =>
    unfold DataW.trod at h
    rw [ht] at h
    cases c <;> simp at h
    rename_i k' n
    obtain ⟨⟨rfl, h2⟩, _⟩ := h
    exact ⟨n, rfl, h2⟩
def intsK (k : IntKind) (l : List Int) : List AV := l.map (.int k)
theorem intsK_length (k : IntKind) (l : List Int) : (intsK k l).length = l.length := by simp [intsK]
theorem Scs_intsK (k : IntKind) (n : Nat) : ∀ (l : List Int), Scs n (intsK k l)
  | [] => trivial
  | _ :: r => ⟨trivial, Scs_intsK k n r⟩
theorem VRs_intK {k : IntKind} {Z : Fz} {φ : Nat → Pl} : ∀ {l : List Int} {vs : List Value}, (∀ (i : Nat) (x : Int), l[i]? = some x → vs[i]? = some (.int k x)) → VRs Z φ (intsK k l) vs
  | [], _, _ => trivial
  | x :: r, vs, h => by
    cases vs with
    | nil => have := h 0 x rfl; simp at this
    | cons v vs =>
      have h0 := h 0 x rfl
      simp at h0
      exact ⟨h0, VRs_intK fun i y hy => by have := h (i + 1) y (by simpa using hy); simpa using this⟩
theorem list_of_fnK {p : Int → Prop} {k : IntKind} {n : Nat} {V : Nat → Value} (h : ∀ i, i < n → ∃ x : Int, V i = .int k x ∧ p x) : ∃ l : List Int, l.length = n ∧ (∀ x ∈ l, p x) ∧ ∀ (i : Nat) (x : Int), l[i]? = some x → V i = .int k x := by
  induction n with
  | zero => exact ⟨[], rfl, by simp, fun i x hx => by simp at hx⟩
  | succ n ih =>
    obtain ⟨l, h1, h0, h2⟩ := ih fun i hi => h i (by omega)
    obtain ⟨x, hx, hpx⟩ := h n (by omega)
    refine ⟨l ++ [x], by simp [h1], by simpa [or_imp, forall_and] using ⟨h0, hpx⟩, fun i y hy => ?_⟩
    rcases Nat.lt_or_ge i n with hi | hi
    · exact h2 i y (by rwa [List.getElem?_append_left (by omega)] at hy)
    · rw [List.getElem?_append_right (by omega)] at hy
      have : i = n := by
        have := (List.getElem?_eq_some_iff.1 hy).1
        simp at this; omega
      subst this
      simp [h1] at hy
      rw [hx, hy]

theorem rowAt_le {fits : TypeId → Bool} {d : Nat} {e : TypeId} {count off n : Nat} (h : rowAt P fits d e count off n = true) : off ≤ count * P.cellsOf e := by
  cases d with
  | zero => simp [rowAt] at h
  | succ d =>
    simp only [rowAt] at h
    split at h
    · cases h
    · rename_i hs
      simp only [Bool.or_eq_true, Bool.and_eq_true, decide_eq_true_eq, beq_iff_eq] at h
      have hdm := Nat.div_add_mod off (P.cellsOf e)
      have hr : off % P.cellsOf e < P.cellsOf e := Nat.mod_lt _ (by omega)
      rcases h with ⟨⟨h1, h2⟩, _⟩ | ⟨h1, _⟩
      · have : P.cellsOf e * (off / P.cellsOf e) ≤ P.cellsOf e * count := Nat.mul_le_mul_left _ (by omega)
        rw [Nat.mul_comm count]; omega
      · have : P.cellsOf e * (off / P.cellsOf e + 1) ≤ P.cellsOf e * count := Nat.mul_le_mul_left _ (by omega)
        rw [Nat.mul_add] at this
        rw [Nat.mul_comm count]; omega
theorem liesAt_le : ∀ {d : Nat} {e : TypeId} {count off : Nat} {u : TypeId} {n : Nat}, liesAt P d e count off u n = true → off ≤ count * P.cellsOf e
  | 0, _, _, _, _, _, h => by simp [liesAt] at h
  | d + 1, e, count, off, u, n, h => by
    simp only [liesAt, Bool.or_eq_true] at h
    rcases h with h | h
    · exact rowAt_le h
    · split at h
      · exact liesAt_le h
      · cases h

/-- A slice of numbers that came in: a list. -/
theorem open_lstK {k : IntKind} {t e : TypeId} {v : Value} {d : DataW H} {ps : List MemPlace} (ht : P.underlying t = some (.slice e)) (he : P.underlying e = some (.int k)) (hc : P.cellsOf e = 1) {b0 : Nat} (hok : Value.okWide P W .any b0 t v)
    (h : DataW.Trod enc P W 0 (fun _ => true) true t v d ps) : ∃ l : List Int, (∀ x ∈ l, (Lit.int k x).wf = true) ∧ ∀ φ, VR (fun B => W.heap[B]?) φ (.lst l.length (intsK k l)) v := by
  obtain ⟨fuel, h⟩ := h
  obtain ⟨a0, len0, cap0, rfl⟩ := okWide_slice ht hok
  rcases Deep.open_slice1 ht hc h with ⟨h1, _⟩ | ⟨a, len, cap, m, n, V, D, Pl, h1, _, hlc, _, hm, _, hV⟩
  · refine ⟨[], by simp, fun φ => .inl ⟨rfl, rfl, none, 0, ?_⟩⟩
    simpa [Value.cells] using h1
  · simp only [if_true] at hm
    subst hm
    have h1 : Value.slice a0 len0 cap0 = .slice (some a) len m := by simpa [Value.cells] using h1
    rw [h1] at hok ⊢
    have hint : ∀ i, i < m → ∃ x : Int, V i = .int k x ∧ (Lit.int k x).wf = true := fun i hi => trod_int_wf he (hV i hi).2
    have hhas : W.has P .any b0 a e m := by
      simp only [Value.okWide, ht, Cell.okWide, Cell.ok] at hok
      exact hok.2.2
    obtain ⟨_, hspot, row, cells, hsh, hlies⟩ := hhas
    obtain ⟨c, el, fz, hblk, hcl⟩ : ∃ c el fz, W.heap[a.block]? = some (.cells c el fz) ∧ cells = c.size := by
      unfold World.shape? at hsh
      split at hsh
      · rename_i c el fz hb; cases hsh; exact ⟨c, _, fz, hb, rfl⟩
      · cases hsh
    have hoff : a.off ≤ c.size := by
      rw [← hcl]
      exact Nat.le_trans (liesAt_le hlies) (Nat.div_mul_le_self _ _)
    obtain ⟨l, hl, hwf, hlV⟩ := list_of_fnK (n := len) fun i hi => hint i (by omega)
    obtain ⟨B, o, sp⟩ := a
    simp only at hspot hblk hoff
    subst hspot
    have hcell : ∀ i, i < m → c[o + i]? = some (V i) := fun i hi => by
      have := (hV i hi).1
      unfold World.cell? at this
      have hb2 : (Addr.add ⟨B, o, none⟩ i).block = B := by unfold Addr.add; split <;> rfl
      have ho2 : (Addr.add ⟨B, o, none⟩ i).off = o + i := by unfold Addr.add; split <;> simp_all
      have hs2 : (Addr.add ⟨B, o, none⟩ i).spot = none := by unfold Addr.add; split <;> rfl
      rw [hb2, ho2, hs2, hblk] at this
      simpa using this
    have hsz : o + len ≤ c.size := by
      rcases Nat.eq_zero_or_pos len with h0 | h0
      · omega
      · have := (Array.getElem?_eq_some_iff.1 (hcell (len - 1) (by omega))).1
        omega
    refine ⟨l, hwf, fun φ => .inr ⟨B, o, m, c, el, fz, by rw [hl], by omega, hblk, by rw [intsK_length, hl]; exact hsz, VRs_intK fun i x hx => ?_⟩⟩
    have hi : i < len := by rw [← hl]; exact (List.getElem?_eq_some_iff.1 hx).1
    rw [List.getElem?_drop, Array.getElem?_toList, hcell i (by omega), hlV i x hx]

theorem open_lst {t e : TypeId} {v : Value} {d : DataW H} {ps : List MemPlace} (ht : P.underlying t = some (.slice e)) (he : P.underlying e = some (.int .i64)) (hc : P.cellsOf e = 1) {b0 : Nat} (hok : Value.okWide P W .any b0 t v)
    (h : DataW.Trod enc P W 0 (fun _ => true) true t v d ps) : ∃ l : List Int, ∀ φ, VR (fun B => W.heap[B]?) φ (.lst l.length (ints l)) v := by
  obtain ⟨l, _, h⟩ := open_lstK ht he hc hok h
  exact ⟨l, h⟩

def byts (l : List Nat) : List AV := l.map fun (n : Nat) => .int .u8 (n : Int)
theorem Scs_byts (n : Nat) : ∀ (l : List Nat), Scs n (byts l)
  | [] => trivial
  | _ :: r => ⟨trivial, Scs_byts n r⟩
theorem getCells_byt {l : List Nat} {i : Nat} {x : Nat} (h : l[i]? = some x) : getCells (byts l) i 1 = some [.int .u8 x] := by
  obtain ⟨hi, hx⟩ := List.getElem?_eq_some_iff.1 h
  rw [getCells_eq, if_pos (by simp [byts]; omega)]
  simp only [byts, ← List.map_drop, ← List.map_take]
  rw [List.drop_eq_getElem_cons hi, hx]
  rfl
theorem open_byts {t e : TypeId} {v : Value} {d : DataW H} {ps : List MemPlace} (ht : P.underlying t = some (.slice e)) (he : P.underlying e = some (.int .u8)) (hc : P.cellsOf e = 1) {b0 : Nat} (hok : Value.okWide P W .any b0 t v)
    (h : DataW.Trod enc P W 0 (fun _ => true) true t v d ps) : ∃ l : List Nat, (∀ x ∈ l, x < 256) ∧ ∀ φ, VR (fun B => W.heap[B]?) φ (.lst l.length (byts l)) v := by
  obtain ⟨l, hw, h⟩ := open_lstK ht he hc hok h
  have hr : ∀ x ∈ l, 0 ≤ x ∧ x < 256 := fun x hx => by
    have := hw x hx
    simp [Lit.wf, IntKind.min, IntKind.max, IntKind.signed, IntKind.bits] at this
    omega
  refine ⟨l.map Int.toNat, fun x hx => ?_, fun φ => ?_⟩
  · obtain ⟨y, hy, rfl⟩ := List.mem_map.1 hx
    have := hr y hy; omega
  · have he : byts (l.map Int.toNat) = intsK .u8 l := by
      simp only [byts, intsK, List.map_map]
      refine List.map_congr_left fun x hx => ?_
      have := hr x hx
      simp; omega
    rw [he, List.length_map]
    exact h φ

theorem exI_of_exec {T : Tab} {n : Nat} {fi : FI} {its : List It} {env : Env} {σ : St} {v : AV} (h : (exec T n fi its env σ).map (·.1) = some v) : ∃ σ1, exI T fi its env σ = some (v, σ1) := by
  cases hx : exec T n fi its env σ with
  | none => rw [hx] at h; cases h
  | some r =>
    rw [hx] at h
    obtain ⟨w, σ1⟩ := r
    cases h
    exact ⟨σ1, exI_iff.2 ⟨n, hx⟩⟩

end Go.Abs
