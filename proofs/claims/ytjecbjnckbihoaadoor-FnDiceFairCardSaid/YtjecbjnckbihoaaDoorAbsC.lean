/- Laws of the model's memory operations for the interpreter's soundness. Nothing is claimed here; no condition. -/
import Derived.Test.YtjecbjnckbihoaaDoorAbsB
namespace Go.Abs
open Go

variable {P : Program}

/-- A row of a block overwritten. -/
def putRow (w : World) (B : Nat) (c : List Value) (e : TypeId) (fz : Nat × Nat) : World := { w with heap := w.heap.setIfInBounds B (.cells ⟨c⟩ e fz) }

def splice {α : Type} (cs : List α) (off : Nat) (new : List α) : List α := cs.take off ++ new ++ cs.drop (off + new.length)

theorem splice_length {α : Type} {cs : List α} {off : Nat} {new : List α} (h : off + new.length ≤ cs.length) : (splice cs off new).length = cs.length := by
  simp [splice]; omega

theorem splice_get {α : Type} {cs : List α} {off : Nat} {new : List α} (h : off + new.length ≤ cs.length) (i : Nat) :
    (splice cs off new)[i]? = if off ≤ i ∧ i < off + new.length then new[i - off]? else cs[i]? := by
  unfold splice
  simp only [List.getElem?_append, List.length_take, List.length_append]
  have e1 : min off cs.length = off := by omega
  rw [e1]
  by_cases h1 : i < off
  · have h2 : i < off + new.length := by omega
    rw [if_pos h2, if_pos h1, if_neg (by omega), List.getElem?_take, if_pos h1]
  · by_cases h2 : i < off + new.length
    · rw [if_pos h2, if_neg h1, if_pos (by omega)]
    · rw [if_neg h2, if_neg (by omega), List.getElem?_drop]
      congr 1; omega

theorem setCell_putRow {w : World} {B o : Nat} {c : Array Value} {e : TypeId} {fz : Nat × Nat} (h : w.heap[B]? = some (.cells c e fz)) (v : Value) :
    w.setCell ⟨B, o, none⟩ v = putRow w B (c.setIfInBounds o v).toList e fz := by
  have hB : B < w.heap.size := (Array.getElem?_eq_some_iff.1 h).1
  have hx : w.heap[B] = .cells c e fz := (Array.getElem?_eq_some_iff.1 h).2
  unfold World.setCell putRow
  congr 1
  apply Array.ext_getElem?
  intro i
  rw [Array.getElem?_modify, Array.getElem?_setIfInBounds]
  by_cases hi : B = i
  · subst hi
    simp only [if_true, hB, h, Option.map_some]
    rfl
  · simp [hi]

theorem putRow_putRow {w : World} {B : Nat} {c d : List Value} {e : TypeId} {fz : Nat × Nat} : putRow (putRow w B c e fz) B d e fz = putRow w B d e fz := by
  simp [putRow, Array.setIfInBounds_setIfInBounds]

theorem putRow_get {w : World} {B : Nat} {c : List Value} {e : TypeId} {fz : Nat × Nat} (hB : B < w.heap.size) : (putRow w B c e fz).heap[B]? = some (.cells ⟨c⟩ e fz) := by
  simp [putRow, hB]

theorem putRow_ne {w : World} {B i : Nat} {c : List Value} {e : TypeId} {fz : Nat × Nat} (h : B ≠ i) : (putRow w B c e fz).heap[i]? = w.heap[i]? := by
  simp [putRow, Array.getElem?_setIfInBounds_ne h]

theorem putRow_size {w : World} {B : Nat} {c : List Value} {e : TypeId} {fz : Nat × Nat} : (putRow w B c e fz).heap.size = w.heap.size := by simp [putRow]

/-- Cells stored one after another into an unfrozen row. -/
theorem run_storeCells_row (B o : Nat) (e : TypeId) (fz : Nat × Nat) : ∀ (vs : List Value) (i : Nat) (c : List Value) (w : World),
    w.heap[B]? = some (.cells ⟨c⟩ e fz) → o + i + vs.length ≤ c.length → (∀ j, j < c.length → (fz.1 ≤ j && j < fz.2) = false) → (∀ v ∈ vs, v.oneCell' = true) →
    ∃ w', (storeCells ⟨B, o, none⟩ vs i).run P w = .ok () w' ∧ (vs = [] → w' = w) ∧ (vs ≠ [] → w' = putRow w B (splice c (o + i) vs) e fz)
  | [], i, c, w, _, _, _, _ => ⟨w, rfl, fun _ => rfl, fun h => (h rfl).elim⟩
  | v :: vs, i, c, w, hB, hle, hf, h1 => by
    simp only [List.length_cons] at hle
    have hadd : (⟨B, o, none⟩ : Addr).add i = ⟨B, o + i, none⟩ := by
      unfold Addr.add; split
      · rename_i h0; subst h0; rfl
      · rfl
    have hlt : B < w.heap.size := (Array.getElem?_eq_some_iff.1 hB).1
    have hcell : w.cell? ⟨B, o + i, none⟩ = some (c[o + i]'(by omega)) := by
      simp [World.cell?, hB, show o + i < c.length by omega]
    have hfr : w.frozen? ⟨B, o + i, none⟩ = false := by
      have := hf (o + i) (by omega)
      simp only [World.frozen?, hB]
      exact this
    have hst : (store ⟨B, o + i, none⟩ v).run P w = .ok () (putRow w B ((⟨c⟩ : Array Value).setIfInBounds (o + i) v).toList e fz) := by
      rw [run_store P w _ v .plain (h1 v (by simp)), hcell]
      simp only [hfr]
      rw [setCell_putRow hB]
      rfl
    have hset : ((⟨c⟩ : Array Value).setIfInBounds (o + i) v).toList = c.set (o + i) v := by simp
    rw [hset] at hst
    have hB' : (putRow w B (c.set (o + i) v) e fz).heap[B]? = some (.cells ⟨c.set (o + i) v⟩ e fz) := putRow_get hlt
    obtain ⟨w', hr, hn, hp⟩ := run_storeCells_row B o e fz vs (i + 1) (c.set (o + i) v) _ hB' (by simp; omega) (by simpa using hf) (fun x hx => h1 x (by simp [hx]))
    refine ⟨w', ?_, (fun h => by cases h), fun _ => ?_⟩
    · unfold storeCells
      rw [hadd, Sem.run_bind, hst]
      exact hr
    · by_cases hvs : vs = []
      · subst hvs
        rw [hn rfl]
        congr 1
        apply List.ext_getElem?
        intro j
        rw [splice_get (by simp; omega), List.getElem?_set]
        simp only [List.length_cons, List.length_nil]
        by_cases hj : o + i = j
        · subst hj
          rw [if_pos rfl, if_pos (by omega), if_pos (by omega)]
          simp
        · rw [if_neg hj, if_neg (by omega)]
      · rw [hp hvs, putRow_putRow]
        congr 1
        apply List.ext_getElem?
        intro j
        rw [splice_get (by simp; omega), splice_get (by simp; omega), List.getElem?_set]
        simp only [List.length_cons]
        by_cases hj : o + i = j
        · subst hj
          rw [if_neg (by omega), if_pos rfl, if_pos (by omega), if_pos (by omega)]
          simp
        · by_cases hj2 : o + (i + 1) ≤ j ∧ j < o + (i + 1) + vs.length
          · rw [if_pos hj2, if_pos (by omega)]
            rw [show j - (o + i) = (j - (o + (i + 1))) + 1 by omega]
            simp
          · rw [if_neg hj2, if_neg hj, if_neg (by omega)]

/-- Cells read one after another. -/
theorem run_loadCells_row {w : World} {B o n : Nat} {c : Array Value} {e : TypeId} {fz : Nat × Nat} (h : w.heap[B]? = some (.cells c e fz)) (hn : o + n ≤ c.size) :
    (loadCells ⟨B, o, none⟩ n).run P w = .ok ⟨(c.toList.drop o).take n⟩ w := by
  have key := run_loadCells_list (P := P) w ⟨B, o, none⟩ ((c.toList.drop o).take n) (fun j v hj => by
    have hadd : (⟨B, o, none⟩ : Addr).add j = ⟨B, o + j, none⟩ := by
      unfold Addr.add; split
      · rename_i h0; subst h0; rfl
      · rfl
    rw [hadd]
    simp only [World.cell?, h, Option.isSome_none, Bool.false_eq_true, if_false]
    rw [List.getElem?_take] at hj
    split at hj
    · rw [List.getElem?_drop] at hj; simpa using hj
    · cases hj)
  have hl : ((c.toList.drop o).take n).length = n := by simp; omega
  rw [hl] at key
  simpa using key


/-! ### One row turned, one row laid -/
structure RowPut (w : World) (B : Nat) (o : Obj) (w' : World) : Prop where
  here : w'.heap[B]? = some o
  there : ∀ i, i ≠ B → w'.heap[i]? = w.heap[i]?
  size : w'.heap.size = w.heap.size
  os : w'.os = w.os
  tape : w'.tape = w.tape
  output : w'.output = w.output

theorem run_storeCells_put {w : World} {B o : Nat} {c : Array Value} {e : TypeId} {fz : Nat × Nat} {vs : List Value} (h : w.heap[B]? = some (.cells c e fz)) (hle : o + vs.length ≤ c.size)
    (hf : ∀ j, j < c.size → (fz.1 ≤ j && j < fz.2) = false) (h1 : ∀ v ∈ vs, v.oneCell' = true) :
    ∃ w', (storeCells ⟨B, o, none⟩ vs).run P w = .ok () w' ∧ RowPut w B (.cells ⟨splice c.toList o vs⟩ e fz) w' := by
  have hlt : B < w.heap.size := (Array.getElem?_eq_some_iff.1 h).1
  obtain ⟨w', hr, hn, hp⟩ := run_storeCells_row (P := P) B o e fz vs 0 c.toList w (by simpa using h) (by simpa using hle) (by simpa using hf) h1
  refine ⟨w', hr, ?_⟩
  by_cases hvs : vs = []
  · rw [hn hvs]
    subst hvs
    refine ⟨?_, fun _ _ => rfl, rfl, rfl, rfl, rfl⟩
    rw [h]
    simp [splice]
  · rw [hp hvs]
    exact ⟨putRow_get hlt, fun i hi => putRow_ne (Ne.symm hi), putRow_size, rfl, rfl, rfl⟩

variable {Z : Fz} {φ : Nat → Pl} {σ : St} {w w' : World}

theorem Real.lt {x : Blk} {p : Pl} (h : Real Z φ x p w) : p.blk < w.heap.size := by
  obtain ⟨c, e, fz, h1, _⟩ := h
  exact (Array.getElem?_eq_some_iff.1 h1).1

theorem Inv.lt (h : Inv Z φ σ w) {b : Nat} {x : Blk} (hb : σ.get b = some x) : (φ b).blk < w.heap.size := (h.r b x hb).lt

theorem Inv.fp_lt (h : Inv Z φ σ w) {B : Nat} (hB : FP σ φ B) : B < w.heap.size := by
  obtain ⟨b, x, hb, rfl⟩ := hB
  exact h.lt hb

theorem Inv.z_lt (h : Inv Z φ σ w) {B : Nat} (hB : Z B ≠ none) : B < w.heap.size := by
  cases hz : Z B with
  | none => exact (hB hz).elim
  | some o => exact (Array.getElem?_eq_some_iff.1 (h.z B o hz)).1

theorem Inv.world (h : Inv Z φ σ w) (hs : ∀ B, Z B ≠ none ∨ FP σ φ B → w'.heap[B]? = w.heap[B]?) : Inv Z φ σ w' := by
  refine ⟨fun B o hB => ?_, fun b x hb => ?_, h.nz, h.inj, h.sc⟩
  · rw [hs B (.inl (by simp [hB]))]; exact h.z B o hB
  · obtain ⟨c, e, fz, h1, r⟩ := h.r b x hb
    exact ⟨c, e, fz, by rw [hs _ (.inr ⟨b, x, hb, rfl⟩)]; exact h1, r⟩

def upd (φ : Nat → Pl) (n : Nat) (p : Pl) : Nat → Pl := fun b => if b = n then p else φ b

theorem upd_lt {n : Nat} {p : Pl} {b : Nat} (h : b < n) : upd φ n p b = φ b := by simp [upd, show b ≠ n by omega]
theorem upd_same {n : Nat} {p : Pl} : upd φ n p n = p := by simp [upd]

theorem Real.mono {n : Nat} {φ' : Nat → Pl} {Z' : Fz} {x : Blk} {p : Pl} (hφ : ∀ b, b < n → φ' b = φ b) (hZ : ∀ B o, Z B = some o → Z' B = some o) (hs : Scs n x.cells) (h : Real Z φ x p w) : Real Z' φ' x p w := by
  obtain ⟨c, e, fz, h1, h2, r⟩ := h
  exact ⟨c, e, fz, h1, VRs_mono hφ hZ _ _ hs h2, r⟩

theorem Inv.push_at (h : Inv Z φ σ w) {p : Pl} {x : Blk} (hr : Real Z φ x p w) (hz : Z p.blk = none) (hf : ¬ FP σ φ p.blk) (hsc : Scs σ.n x.cells) : Inv Z (upd φ σ.n p) (σ.push x) w := by
  have hget : ∀ b y, (σ.push x).get b = some y → (b = σ.n ∧ y = x) ∨ (b < σ.n ∧ σ.get b = some y) := by
    intro b y hb
    rw [get_push] at hb
    split at hb
    · rename_i e; exact .inl ⟨e.symm, by simpa using hb.symm⟩
    · exact .inr ⟨(h.sc b y hb).1, hb⟩
  refine ⟨h.z, fun b y hb => ?_, fun b y hb => ?_, fun b b' y y' hb hb' hne => ?_, fun b y hb => ?_⟩
  · rcases hget b y hb with ⟨rfl, rfl⟩ | ⟨hlt, hb⟩
    · rw [upd_same]; exact hr.mono (fun b hb => upd_lt hb) (fun _ _ h => h) hsc
    · rw [upd_lt hlt]; exact (h.r b y hb).mono (fun b hb => upd_lt hb) (fun _ _ h => h) (h.sc b y hb).2
  · rcases hget b y hb with ⟨rfl, rfl⟩ | ⟨hlt, hb⟩
    · rw [upd_same]; exact hz
    · rw [upd_lt hlt]; exact h.nz b y hb
  · rcases hget b y hb with ⟨rfl, rfl⟩ | ⟨hlt, hq⟩ <;> rcases hget b' y' hb' with ⟨rfl, rfl⟩ | ⟨hlt', hq'⟩
    · exact (hne rfl).elim
    · rw [upd_same, upd_lt hlt']; exact fun e => hf ⟨b', y', hq', e.symm⟩
    · rw [upd_same, upd_lt hlt]; exact fun e => hf ⟨b, y, hq, e⟩
    · rw [upd_lt hlt, upd_lt hlt']; exact h.inj b b' y y' hq hq' hne
  · show b < σ.n + 1 ∧ Scs (σ.n + 1) y.cells
    rcases hget b y hb with ⟨rfl, rfl⟩ | ⟨hlt, hb⟩
    · exact ⟨by omega, Scs_mono (by omega) _ hsc⟩
    · exact ⟨by omega, Scs_mono (by omega) _ (h.sc b y hb).2⟩

theorem FP_push {p : Pl} {x : Blk} {B : Nat} (hlt : ∀ b y, σ.get b = some y → b < σ.n) (h : FP (σ.push x) (upd φ σ.n p) B) : B = p.blk ∨ FP σ φ B := by
  obtain ⟨b, y, hb, rfl⟩ := h
  rw [get_push] at hb
  split at hb
  · rename_i e; subst e; rw [upd_same]; exact .inl rfl
  · rw [upd_lt (hlt b y hb)]; exact .inr ⟨b, y, hb, rfl⟩

theorem Inv.del (h : Inv Z φ σ w) (b : Nat) : Inv Z φ (σ.del b) w :=
  ⟨h.z, fun c x hc => h.r c x (get_del_some hc).2, fun c x hc => h.nz c x (get_del_some hc).2, fun c c' x x' hc hc' => h.inj c c' x x' (get_del_some hc).2 (get_del_some hc').2, fun c x hc => h.sc c x (get_del_some hc).2⟩

theorem FP_del {b B : Nat} (h : FP (σ.del b) φ B) : FP σ φ B := by
  obtain ⟨c, x, hc, rfl⟩ := h
  exact ⟨c, x, (get_del_some hc).2, rfl⟩

theorem hget_keepH {l : List Nat} {b : Nat} {x : Blk} : ∀ {h : List (Nat × Blk)}, hget (keepH l h) b = some x → memB b l = true ∧ hget h b = some x
  | [], hh => by simp [keepH, hget] at hh
  | (i, y) :: r, hh => by
    simp only [keepH] at hh
    cases hm : memB i l with
    | true =>
      rw [hm] at hh
      simp only [cond_true, hget, nif_eq] at hh ⊢
      split at hh
      · rename_i e; rw [if_pos e]; exact ⟨by rw [← e]; exact hm, hh⟩
      · rename_i e; rw [if_neg e]; exact hget_keepH hh
    | false =>
      rw [hm] at hh
      obtain ⟨h1, h2⟩ := hget_keepH (h := r) hh
      refine ⟨h1, ?_⟩
      simp only [hget, nif_eq]
      rw [if_neg (fun e => by rw [e, h1] at hm; cases hm)]
      exact h2
theorem get_keepB {l : List Nat} {σ : St} {b : Nat} {x : Blk} (h : (σ.keepB l).get b = some x) : σ.get b = some x := (hget_keepH h).2

theorem Inv.keepB (h : Inv Z φ σ w) (l : List Nat) : Inv Z φ (σ.keepB l) w :=
  ⟨h.z, fun c x hc => h.r c x (get_keepB hc), fun c x hc => h.nz c x (get_keepB hc), fun c c' x x' hc hc' => h.inj c c' x x' (get_keepB hc) (get_keepB hc'), fun c x hc => h.sc c x (get_keepB hc)⟩

theorem keepB_ext (l : List Nat) : Ext Z φ σ w Z φ (σ.keepB l) w :=
  ⟨fun _ _ h => h, fun _ h => .inl h, fun _ _ => rfl, Nat.le_refl _, Nat.le_refl _, fun _ _ _ => rfl, fun _ ⟨b, x, hb, e⟩ => .inr ⟨b, x, get_keepB hb, e⟩, rfl, rfl, rfl⟩

theorem gcE_ok {env : Env} : ∀ (k : List (Nat × List Nat)) (id : Nat) (σ : St), ∃ l, gcE k id env σ = σ ∨ gcE k id env σ = σ.keepB l
  | [], _, σ => ⟨[], .inl rfl⟩
  | (i, _) :: r, id, σ => by
    simp only [gcE, nif_eq]
    split
    · exact ⟨_, .inr rfl⟩
    · exact gcE_ok r id σ

/-- A new row at the end of the heap. -/
theorem alloc_ok (h : Inv Z φ σ w) {x : Blk} {c : Array Value} {e : TypeId} {fz : Nat × Nat} {extra : Nat} (hv : VRs Z φ x.cells c.toList) (hsz : x.cells.length + extra * (x.esz % 7000000000) ≤ c.size)
    (hf : ∀ j, j < c.size → (fz.1 ≤ j && j < fz.2) = false) (ho : x.opn = false → extra = 0) (hsc : Scs σ.n x.cells) (htag : 7000000000 ≤ x.esz → e = x.esz / 7000000000 - 1 ∧ (x.esz % 7000000000 = 2 → c.size = 2)) :
    Inv Z (upd φ σ.n ⟨w.heap.size, 0, extra⟩) (σ.push x) (w.alloc (.cells c e fz)) ∧ Ext Z φ σ w Z (upd φ σ.n ⟨w.heap.size, 0, extra⟩) (σ.push x) (w.alloc (.cells c e fz)) := by
  have hold : ∀ B, B < w.heap.size → (w.alloc (.cells c e fz)).heap[B]? = w.heap[B]? := fun B hB => by
    show (w.heap.push _)[B]? = _
    rw [Array.getElem?_push, if_neg (by omega)]
  have h1 : Inv Z φ σ (w.alloc (.cells c e fz)) := h.world fun B hB => hold B (hB.elim h.z_lt h.fp_lt)
  have hnew : (w.alloc (.cells c e fz)).heap[w.heap.size]? = some (.cells c e fz) := by
    show (w.heap.push _)[_]? = _
    simp
  refine ⟨h1.push_at ⟨c, e, fz, hnew, by simpa using hv, by simpa using hsz, hf, ho, fun h => ⟨(htag h).1, rfl, (htag h).2⟩⟩ ?_ (fun hF => absurd (h.fp_lt hF) (by simp)) hsc, ?_⟩
  · cases hz : Z w.heap.size with
    | none => rfl
    | some o => exact absurd (h.z_lt (B := w.heap.size) (by simp [hz])) (by omega)
  · refine ⟨fun _ _ h => h, fun _ h => .inl h, fun b hb => upd_lt hb, by show σ.n ≤ σ.n + 1; omega, by simp, fun B hB _ => hold B hB, fun B hB => ?_, rfl, rfl, rfl⟩
    rcases FP_push (fun b y hb => (h.sc b y hb).1) hB with rfl | hB
    · exact .inl (Nat.le_refl _)
    · exact .inr hB

/-- A row of the abstract heap overwritten. -/
theorem set_ok (h : Inv Z φ σ w) {b : Nat} {x x' : Blk} (hb : σ.get b = some x) {o : Obj} (hp : RowPut w (φ b).blk o w') (hr : Real Z φ x' (φ b) w') (hsc : Scs σ.n x'.cells) :
    Inv Z φ (σ.set b x') w' ∧ Ext Z φ σ w Z φ (σ.set b x') w' := by
  have hget : ∀ c y, (σ.set b x').get c = some y → (c = b ∧ y = x') ∨ (c ≠ b ∧ σ.get c = some y) := by
    intro c y hc
    by_cases e : b = c
    · subst e; rw [get_set_same ⟨x, hb⟩] at hc; exact .inl ⟨rfl, by simpa using hc.symm⟩
    · rw [get_set_ne e] at hc; exact .inr ⟨Ne.symm e, hc⟩
  have hFP : ∀ B, FP (σ.set b x') φ B → FP σ φ B := by
    rintro B ⟨c, y, hc, rfl⟩
    rcases hget c y hc with ⟨rfl, rfl⟩ | ⟨_, hc⟩
    · exact ⟨c, x, hb, rfl⟩
    · exact ⟨c, y, hc, rfl⟩
  refine ⟨⟨fun B ob hB => ?_, fun c y hc => ?_, fun c y hc => ?_, fun c c' y y' hc hc' hne => ?_, fun c y hc => ?_⟩, ?_⟩
  · by_cases e : B = (φ b).blk
    · subst e; rw [h.nz b x hb] at hB; cases hB
    · rw [hp.there B e]; exact h.z B ob hB
  · rcases hget c y hc with ⟨rfl, rfl⟩ | ⟨hne, hc⟩
    · exact hr
    · obtain ⟨d, e, fz, h1, rest⟩ := h.r c y hc
      exact ⟨d, e, fz, by rw [hp.there _ (h.inj c b y x hc hb hne)]; exact h1, rest⟩
  · rcases hget c y hc with ⟨rfl, rfl⟩ | ⟨hne, hc⟩
    · exact h.nz c x hb
    · exact h.nz c y hc
  · rcases hget c y hc with ⟨rfl, rfl⟩ | ⟨h1, hq⟩ <;> rcases hget c' y' hc' with ⟨rfl, rfl⟩ | ⟨h2, hq'⟩
    · exact (hne rfl).elim
    · exact h.inj _ _ _ _ hb hq' hne
    · exact h.inj _ _ _ _ hq hb hne
    · exact h.inj _ _ _ _ hq hq' hne
  · show c < σ.n ∧ Scs σ.n y.cells
    rcases hget c y hc with ⟨rfl, rfl⟩ | ⟨hne, hc⟩
    · exact ⟨(h.sc c x hb).1, hsc⟩
    · exact h.sc c y hc
  · exact ⟨fun _ _ h => h, fun _ h => .inl h, fun _ _ => rfl, Nat.le_refl _, by rw [hp.size]; exact Nat.le_refl _,
      fun B hB hn => hp.there B (fun e => hn ⟨b, x, hb, e.symm⟩), fun B hB => .inr (hFP B hB), hp.os, hp.tape, hp.output⟩

end Go.Abs
