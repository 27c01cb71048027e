/- Regions whose order the model draws, in two parts: the first one makes new rows that none of its operations looks at. Nothing is claimed here; no condition. -/
import Derived.Test.YtjecbjnckbihoaaDoorAbsO
namespace Go.Abs
open Go

variable {P : Program} {T : Tab} {Z Zc : Fz} {φ : Nat → Pl} {σ σ' : St} {w w' : World}
variable {call : FuncId → List AV → St → Option (AV × St)} {nt : Nat} {ops : Array Oper} {ps : List (Nat × Nat)} {E : Nat → Env} {H : Nat → St} {R : Nat → Nat → Prop}

/-! ### New rows -/
/-- What stands for a new row. -/
def NewV (g : Nat → AV) : Prop := (∀ m, g m = .ptr m 0) ∨ ∃ n c, ∀ m, g m = .sl m 0 n c

theorem NewV.vr {g : Nat → AV} (h : NewV g) {Z Z' : Fz} {φ φ' : Nat → Pl} {m m' : Nat} {u : Value} (hv : VR Z φ (g m) u) (e : φ' m' = φ m) : VR Z' φ' (g m') u := by
  rcases h with h | ⟨n, c, h⟩
  · rw [h] at hv ⊢; simp only [VR] at hv ⊢; rw [e]; exact hv
  · rw [h] at hv ⊢; simp only [VR] at hv ⊢; rw [e]; exact hv
theorem NewV.sc {g : Nat → AV} (h : NewV g) {m n : Nat} (hm : m < n) : Sc n (g m) := by
  rcases h with h | ⟨_, _, h⟩ <;> rw [h] <;> exact hm

theorem scals_append {a b : List AV} (ha : scals a = true) (hb : scals b = true) : scals (a ++ b) = true := by
  induction a with
  | nil => exact hb
  | cons x r ih =>
    simp only [List.cons_append, scals, Bool.and_eq_true] at ha ⊢
    exact ⟨ha.1, ih ha.2⟩
theorem scals_repeat {z : List AV} (h : scals z = true) : ∀ n, scals (repeatCells z n) = true
  | 0 => rfl
  | n + 1 => scals_append h (scals_repeat h n)

theorem fresh_op {env : Env} {op : Op} {r : Nx} (hf : freshOp T op = true) (h : opA T env σ op = some r) :
    ∃ g x, NewV g ∧ scals x.cells = true ∧ r = .val (g σ.n) (σ.push x) ∧ ∀ τ, opA T env τ op = some (.val (g τ.n) (τ.push x)) := by
  cases op <;> first | (simp [freshOp] at hf; done) | skip
  case alloc e =>
    simp only [opA] at h ⊢
    simp only [freshOp] at hf
    cases hT : T.ty e with
    | none => rw [hT] at h; cases h
    | some i =>
      rw [hT] at h hf
      cases h
      exact ⟨fun m => .ptr m 0, ⟨i.zero, _, false⟩, .inl fun _ => rfl, hf, rfl, fun _ => rfl⟩
  case makeSlice t l c =>
    simp only [opA] at h ⊢
    simp only [freshOp] at hf
    cases ha : evo env l with
    | none => rw [ha] at h; cases h
    | some a =>
      cases hb : evo env c with
      | none => rw [ha, hb] at h; cases h
      | some b =>
        rw [ha, hb] at h
        simp only [makeSliceA] at h ⊢
        cases hT : T.ty t with
        | none => rw [hT] at h; cases h
        | some i =>
          rw [hT] at h hf
          simp only [] at h hf ⊢
          cases a <;> cases b <;> first | (cases h; done) | skip
          rename_i ka na kb nb
          simp only [] at h ⊢
          cases hk : i.k <;> rw [hk] at h hf <;> first | (cases h; done) | (simp at hf; done) | skip
          rename_i e
          simp only [] at h hf ⊢
          cases hz : T.ty e with
          | none => rw [hz] at h; cases h
          | some z =>
            rw [hz] at h hf
            simp only [] at h hf ⊢
            split at h
            · rename_i hc
              cases h
              refine ⟨fun m => .sl m 0 na.toNat nb.toNat, ⟨repeatCells z.zero nb.toNat, z.size, false⟩, .inr ⟨_, _, fun _ => rfl⟩, scals_repeat hf _, rfl, fun τ => ?_⟩
              rw [if_pos hc]; rfl
            · cases h
  case buildSlice t n qs =>
    simp only [opA] at h ⊢
    simp only [freshOp, Bool.and_eq_true] at hf
    have hqs : qs.toList = [] := by have := hf.1; simpa using this
    rw [hqs] at h ⊢
    simp only [evPairs, buildSliceA] at h ⊢
    cases hT : T.ty t with
    | none => rw [hT] at h; cases h
    | some i =>
      rw [hT] at h hf
      simp only [] at h hf ⊢
      cases hk : i.k <;> rw [hk] at h hf <;> first | (cases h; done) | (simp at hf; done) | skip
      rename_i e
      simp only [] at h hf ⊢
      cases hz : T.ty e with
      | none => rw [hz] at h; cases h
      | some z =>
        rw [hz] at h hf
        simp only [fillA] at h hf ⊢
        split at h
        · rename_i hc
          cases h
          refine ⟨fun m => .sl m 0 n n, ⟨repeatCells z.zero n, z.size, false⟩, .inr ⟨_, _, fun _ => rfl⟩, scals_repeat hf.2 _, rfl, fun τ => ?_⟩
          rw [if_pos hc]; rfl
        · cases h

theorem NewV.det {g : Nat → AV} (h : NewV g) {Z : Fz} {φ : Nat → Pl} {m : Nat} {u u' : Value} (hu : VR Z φ (g m) u) (hu' : VR Z φ (g m) u') : u = u' := by
  rcases h with h | ⟨n, c, h⟩
  · rw [h] at hu hu'; simp only [VR] at hu hu'; rw [hu, hu']
  · rw [h] at hu hu'; simp only [VR] at hu hu'; rw [hu, hu']
theorem Real.scal {x : Blk} (hs : scals x.cells = true) {p : Pl} (h : Real Z φ x p w) {Z' : Fz} {φ' : Nat → Pl} (hw : w'.heap[p.blk]? = w.heap[p.blk]?) : Real Z' φ' x p w' := by
  obtain ⟨c, e, fz, h1, h2, h3, h4, h5⟩ := h
  exact ⟨c, e, fz, by rw [hw]; exact h1, VRs_scal _ _ hs h2, h3, h4, h5⟩

/-- The newest row forgotten. -/
theorem Inv.pop {x : Blk} (hlt : ∀ b y, σ.get b = some y → b < σ.n ∧ Scs σ.n y.cells) (h : Inv Z φ (σ.push x) w) : Inv Z φ σ w := by
  have up : ∀ b y, σ.get b = some y → (σ.push x).get b = some y := fun b y hb => by
    rw [get_push, if_neg (by have := (hlt b y hb).1; omega)]; exact hb
  exact ⟨h.z, fun b y hb => h.r b y (up b y hb), fun b y hb => h.nz b y (up b y hb), fun b b' y y' hb hb' => h.inj b b' y y' (up b y hb) (up b' y' hb'), hlt⟩
theorem Ext.pop {σ0 : St} {Z' : Fz} {φ' : Nat → Pl} {x : Blk} (hn : σ0.n ≤ σ.n) (hlt : ∀ b y, σ.get b = some y → b < σ.n) (h : Ext Z φ σ0 w Z' φ' (σ.push x) w') : Ext Z φ σ0 w Z' φ' σ w' where
  zz := h.zz
  zn := h.zn
  ph := h.ph
  nn := hn
  sz := h.sz
  fr := h.fr
  fp B hB := h.fp B (by
    obtain ⟨b, y, hb, hB⟩ := hB
    exact ⟨b, y, by rw [get_push, if_neg (by have := hlt b y hb; omega)]; exact hb, hB⟩)
  os := h.os
  tape := h.tape
  output := h.output

/-- A row that has lain in the world comes into the heap. -/
theorem Ext.pushed {σ0 : St} {w0 : World} {Z1 : Fz} {φ1 : Nat → Pl} {pl : Pl} {x : Blk} (hlt : ∀ b y, σ.get b = some y → b < σ.n) (h0 : w0.heap.size ≤ pl.blk) (hx : Ext Z φ σ0 w0 Z1 φ1 σ w) : Ext Z φ σ0 w0 Z1 (upd φ1 σ.n pl) (σ.push x) w := by
  refine ⟨hx.zz, hx.zn, fun b hb => ?_, Nat.le_trans hx.nn (Nat.le_succ _), hx.sz, hx.fr, fun B hB => ?_, hx.os, hx.tape, hx.output⟩
  · rw [upd_lt (Nat.lt_of_lt_of_le hb hx.nn)]; exact hx.ph b hb
  · rcases FP_push hlt hB with rfl | k
    · exact .inl h0
    · exact hx.fp B k

/-! ### A part of a region: the operations in A; those in B are done; those in F make new rows; those in L belong to what comes next, but may run early -/
structure OrdR (T : Tab) (ops : Array Oper) (ps : List (Nat × Nat)) (R : Nat → Nat → Prop) (A B F L : Nat → Bool) : Prop where
  down : ∀ j o, ops[j]? = some o → ∀ e ∈ o.after, Region.binds .any e = true → e.on < j
  step : ∀ i j o, R i j → ops[j]? = some o → ∃ e ∈ o.after, Region.binds .any e = true ∧ (e.on = i ∨ R i e.on)
  cross : ∀ i j a o, A i = true → ops[i]? = some a → A j = false → B j = false → L j = false → ops[j]? = some o → R i j
  fa : ∀ i, F i = true → A i = true
  nla : ∀ i, L i = true → A i = false ∧ B i = false
  nba : ∀ i, B i = true → A i = false
  w : ∀ i j a b t, A i = true → A j = true → ops[i]? = some a → ops[j]? = some b → i < j → a.dst = some t → (t ∈ b.looksAt ops ∨ b.dst = some t) → R i j
  r : ∀ i j a b t, A i = true → A j = true → ops[i]? = some a → ops[j]? = some b → i < j → b.dst = some t → t ∈ a.looksAt ops → R i j
  ee : ∀ i j a b, A i = true → A j = true → F i = false → F j = false → ops[i]? = some a → ops[j]? = some b → i < j → clsA T a.op = 2 → clsA T b.op = 2 → R i j
  re : ∀ i j a b, A i = true → A j = true → F i = false → F j = false → ops[i]? = some a → ops[j]? = some b → i < j → clsA T a.op = 1 → clsA T b.op = 2 → R i j ∨ (i, j) ∈ ps
  er : ∀ i j a b, A i = true → A j = true → F i = false → F j = false → ops[i]? = some a → ops[j]? = some b → i < j → clsA T a.op = 2 → clsA T b.op = 1 → R i j ∨ (j, i) ∈ ps
  iso : ∀ k j a b t, F k = true → A j = true → ops[k]? = some a → ops[j]? = some b → a.dst = some t → t ∉ b.looksAt ops ∧ (j ≠ k → b.dst ≠ some t)
  iso2 : ∀ k j a b t, F k = true → k < j → A j = true → ops[k]? = some a → ops[j]? = some b → b.dst = some t → t ∉ a.looksAt ops
  fr : ∀ k a, F k = true → ops[k]? = some a → freshOp T a.op = true ∧ a.guard = none ∧ a.dst ≠ none
  la : ∀ j o, L j = true → ops[j]? = some o → clsA T o.op = 0 ∧ o.guard = none ∧ o.dst ≠ none
  lb : ∀ j o i b t, L j = true → ops[j]? = some o → o.dst = some t → A i = true → ops[i]? = some b → t ∉ b.looksAt ops ∧ b.dst ≠ some t
  lb2 : ∀ j o i b t, L j = true → ops[j]? = some o → o.dst = some t → L i = true → ops[i]? = some b → i ≠ j → b.dst ≠ some t
  lc : ∀ j o i b t, L j = true → ops[j]? = some o → t ∈ o.looksAt ops → ops[i]? = some b → b.dst = some t → (A i = true ∧ R i j) ∨ B i = true ∨ (L i = true ∧ R i j ∧ ∀ s, s ∈ b.looksAt ops → ∀ k c, F k = true → ops[k]? = some c → c.dst ≠ some s)
  ld : ∀ j o, L j = true → ops[j]? = some o → (∀ t, t ∈ o.looksAt ops → ∀ k b, F k = true → ops[k]? = some b → b.dst ≠ some t) ∨ (∃ (t : Nat) (k : Nat) (b : Oper), (o.op = .move (.tmp t) ∨ o.op = .assign (.tmp t)) ∧ F k = true ∧ ops[k]? = some b ∧ b.dst = some t)
  rlt : ∀ i j, R i j → i < j
  ln : ∀ j o i b t, L j = true → ops[j]? = some o → o.dst = some t → A i = false → ops[i]? = some b → i ≠ j → b.dst ≠ some t

structure WayR (T : Tab) (call : FuncId → List AV → St → Option (AV × St)) (nt : Nat) (ops : Array Oper) (ps : List (Nat × Nat)) (E : Nat → Env) (H : Nat → St) (EL : Env) (A F L : Nat → Bool) : Prop where
  step : ∀ i o, A i = true → F i = false → ops[i]? = some o → opStep T call nt ops o (E i) (H i) = some (E (i + 1), H (i + 1))
  skip : ∀ i o, (A i = false ∨ F i = true) → ops[i]? = some o → E (i + 1) = E i ∧ H (i + 1) = H i
  pair : ∀ i j o, (i, j) ∈ ps → ops[i]? = some o → wantedA ops o (E i) = some true → ∃ v s s', opA T (E i) (H i) o.op = some (.val v s) ∧ opA T (E i) (H (if j < i then j else j + 1)) o.op = some (.val v s')
  fresh : ∀ k o, F k = true → ops[k]? = some o → ∃ (g : Nat → AV) (x : Blk) (t : Nat), NewV g ∧ scals x.cells = true ∧ o.dst = some t ∧ t < nt ∧ ∀ τ, opA T (E ops.size) τ o.op = some (.val (g τ.n) (τ.push x))
  late : ∀ j o, L j = true → ops[j]? = some o → ∃ (t : Nat), o.dst = some t ∧ t < nt ∧ ((∀ s, s ∈ o.looksAt ops → ∀ k b, F k = true → ops[k]? = some b → b.dst ≠ some s) → ∃ v, (∀ τ, opA T EL τ o.op = some (.val v τ)) ∧ lk EL t = some v)
  lates : ∀ j o s, L j = true → ops[j]? = some o → s ∈ o.looksAt ops → (∀ i b, L i = true → ops[i]? = some b → b.dst ≠ some s) → (∀ k b, F k = true → ops[k]? = some b → b.dst ≠ some s) → lk EL s = lk (E ops.size) s

section
variable {EL : Env} {A B F L : Nat → Bool}

theorem WayR.first (hW : WayR T call nt ops ps E H EL A F L) {p : Nat} : ∀ k, p + k ≤ ops.size → H p = H (p + k) ∨ ∃ j o, ops[j]? = some o ∧ A j = true ∧ F j = false ∧ clsA T o.op = 2 ∧ p ≤ j ∧ j < p + k ∧ H p = H j
  | 0, _ => .inl rfl
  | k + 1, hk => by
    rcases hW.first (p := p) k (by omega) with h | ⟨j, o, h1, h0, h0', h2, h3, h4, h5⟩
    · obtain ⟨o, ho⟩ : ∃ o, ops[p + k]? = some o := ⟨_, Array.getElem?_eq_getElem (by omega)⟩
      cases hA : A (p + k) with
      | false => left; rw [h]; exact (hW.skip _ o (.inl hA) ho).2.symm
      | true =>
        cases hF : F (p + k) with
        | true => left; rw [h]; exact (hW.skip _ o (.inr hF) ho).2.symm
        | false =>
          by_cases hc : clsA T o.op = 2
          · exact .inr ⟨p + k, o, ho, hA, hF, hc, by omega, by omega, h⟩
          · left; rw [h]; exact (opStep_quiet (hW.step _ o hA hF ho) hc).symm
    · exact .inr ⟨j, o, h1, h0, h0', h2, h3, by omega, h5⟩

theorem WayR.last (hW : WayR T call nt ops ps E H EL A F L) {p : Nat} : ∀ k, p + k ≤ ops.size → H p = H (p + k) ∨ ∃ j o, ops[j]? = some o ∧ A j = true ∧ F j = false ∧ clsA T o.op = 2 ∧ p ≤ j ∧ j < p + k ∧ H (j + 1) = H (p + k)
  | 0, _ => .inl rfl
  | k + 1, hk => by
    obtain ⟨o, ho⟩ : ∃ o, ops[p + k]? = some o := ⟨_, Array.getElem?_eq_getElem (by omega)⟩
    have quiet : H (p + (k + 1)) = H (p + k) → H p = H (p + (k + 1)) ∨ ∃ j o, ops[j]? = some o ∧ A j = true ∧ F j = false ∧ clsA T o.op = 2 ∧ p ≤ j ∧ j < p + (k + 1) ∧ H (j + 1) = H (p + (k + 1)) := by
      intro hq
      rw [hq]
      rcases hW.last (p := p) k (by omega) with h | ⟨j, o, h1, h0, h0', h2, h3, h4, h5⟩
      · exact .inl h
      · exact .inr ⟨j, o, h1, h0, h0', h2, h3, by omega, h5⟩
    cases hA : A (p + k) with
    | false => exact quiet (hW.skip _ o (.inl hA) ho).2
    | true =>
      cases hF : F (p + k) with
      | true => exact quiet (hW.skip _ o (.inr hF) ho).2
      | false =>
        by_cases hc : clsA T o.op = 2
        · exact .inr ⟨p + k, o, ho, hA, hF, hc, by omega, by omega, rfl⟩
        · exact quiet (opStep_quiet (hW.step _ o hA hF ho) hc)

theorem WayR.slot (hW : WayR T call nt ops ps E H EL A F L) {p t : Nat} : ∀ k, p + k ≤ ops.size → (∀ j o, ops[j]? = some o → A j = true → F j = false → p ≤ j → j < p + k → o.dst ≠ some t) → lk (E (p + k)) t = lk (E p) t
  | 0, _, _ => rfl
  | k + 1, hk, h => by
    obtain ⟨o, ho⟩ : ∃ o, ops[p + k]? = some o := ⟨_, Array.getElem?_eq_getElem (by omega)⟩
    rw [← hW.slot (p := p) k (by omega) (fun j o h1 h0 h0' h2 h3 => h j o h1 h0 h0' h2 (by omega))]
    cases hA : A (p + k) with
    | false => exact congrArg (fun e => lk e t) (hW.skip _ o (.inl hA) ho).1
    | true =>
      cases hF : F (p + k) with
      | true => exact congrArg (fun e => lk e t) (hW.skip _ o (.inr hF) ho).1
      | false =>
        obtain ⟨v, hv⟩ := opStep_put (hW.step _ o hA hF ho)
        exact putE_ne hv (h _ o ho hA hF (by omega) (by omega))

/-- A new row that no slot but one leads to. -/
def PendAt (T : Tab) (E1 : Env) (o : Oper) (nt : Nat) (a : Act) (w0 w : World) (Z1 : Fz) (φ1 : Nat → Pl) (σ : St) (pl : Pl) : Prop :=
  ∃ (g : Nat → AV) (x : Blk) (t : Nat) (u : Value), NewV g ∧ scals x.cells = true ∧ o.dst = some t ∧ t < nt ∧ (∀ τ, opA T E1 τ o.op = some (.val (g τ.n) (τ.push x))) ∧ a.tmps[t]? = some u ∧ (∀ Z φ m, φ m = pl → VR Z φ (g m) u) ∧
    (∀ Z φ, Real Z φ x pl w) ∧ Z1 pl.blk = none ∧ ¬ FP σ φ1 pl.blk ∧ w0.heap.size ≤ pl.blk

theorem PendAt.keep {E1 : Env} {o : Oper} {a a' : Act} {w0 : World} {Z1 Z2 : Fz} {φ1 φ2 : Nat → Pl} {pl : Pl} (h : PendAt T E1 o nt a w0 w Z1 φ1 σ pl) (hx : Ext Z1 φ1 σ w Z2 φ2 σ' w') (ha : ∀ t, o.dst = some t → a'.tmps[t]? = a.tmps[t]?) :
    PendAt T E1 o nt a' w0 w' Z2 φ2 σ' pl := by
  obtain ⟨g, x, t, u, h1, h2, h3, h4, h5, h6, h7, h8, h9, h10, h11⟩ := h
  have hlt : pl.blk < w.heap.size := by
    obtain ⟨c, e, fz, k1, _⟩ := h8 Z1 φ1
    exact (Array.getElem?_eq_some_iff.1 k1).1
  refine ⟨g, x, t, u, h1, h2, h3, h4, h5, by rw [ha t h3]; exact h6, h7, fun Z φ => (h8 Z φ).scal h2 (hx.fr _ hlt h10), ?_, ?_, h11⟩
  · cases hz : Z2 pl.blk with
    | none => rfl
    | some o' =>
      rcases hx.zn pl.blk (by rw [hz]; simp) with k | k | k
      · exact (k h9).elim
      · omega
      · exact (h10 k).elim
  · intro hf
    rcases hx.fp _ hf with k | k
    · omega
    · exact h10 k

/-- What an operation that ran early has left. -/
def PendL (T : Tab) (ops : Array Oper) (F : Nat → Bool) (E1 : Env) (o : Oper) (a : Act) (Z1 : Fz) (φ1 : Nat → Pl) (σ : St) : Prop :=
  ∃ (t : Nat) (u : Value), o.dst = some t ∧ a.tmps[t]? = some u ∧
    ((∃ v, (∀ τ, opA T E1 τ o.op = some (.val v τ)) ∧ (∀ s, s ∈ o.looksAt ops → ∀ k b, F k = true → ops[k]? = some b → b.dst ≠ some s) ∧ VR Z1 φ1 v u ∧ Sc σ.n v) ∨
      ∃ (s : Nat) (k : Nat) (b : Oper), (o.op = .move (.tmp s) ∨ o.op = .assign (.tmp s)) ∧ F k = true ∧ ops[k]? = some b ∧ b.dst = some s ∧ a.tmps[s]? = some u)

theorem PendL.keep {E1 : Env} {o : Oper} {a a' : Act} {Z1 Z2 : Fz} {φ1 φ2 : Nat → Pl} (h : PendL T ops F E1 o a Z1 φ1 σ) (hz : ∀ B o, Z1 B = some o → Z2 B = some o) (hp : ∀ b, b < σ.n → φ2 b = φ1 b) (hn : σ.n ≤ σ'.n) (ha : ∀ t, o.dst = some t → a'.tmps[t]? = a.tmps[t]?)
    (hf : ∀ k b t, F k = true → ops[k]? = some b → b.dst = some t → (∃ u, a.tmps[t]? = some u) → a'.tmps[t]? = a.tmps[t]?) : PendL T ops F E1 o a' Z2 φ2 σ' := by
  obtain ⟨t, u, h1, h2, h3⟩ := h
  refine ⟨t, u, h1, by rw [ha t h1]; exact h2, ?_⟩
  rcases h3 with ⟨v, k1, k2, k3, k4⟩ | ⟨s, k, b, k1, k2, k3, k4, k5⟩
  · exact .inl ⟨v, k1, k2, VR_mono hp hz v u k4 k3, Sc_mono hn v k4⟩
  · exact .inr ⟨s, k, b, k1, k2, k3, k4, by rw [hf k b s k2 k3 k4 ⟨u, k5⟩]; exact k5⟩

structure DInvR (T : Tab) (ops : Array Oper) (nt : Nat) (E : Nat → Env) (H : Nat → St) (EL : Env) (A B F L : Nat → Bool) (Z : Fz) (φ : Nat → Pl) (w0 : World) (a0 : Act) (listed : Array Bool) (a : Act) (w : World) (Z1 : Fz) (φ1 : Nat → Pl) (p : Nat) (π : Nat → Pl) : Prop where
  size : listed.size = ops.size
  closed : ∀ j o, ops[j]? = some o → listed.getD j false = true → ∀ e ∈ o.after, Region.binds .any e = true → listed.getD e.on false = true
  lo : ∀ i o, ops[i]? = some o → B i = true → listed.getD i false = true
  hi : ∀ i o, ops[i]? = some o → A i = false → B i = false → L i = false → ¬ listed.getD i false = true
  le : p ≤ ops.size
  eff : ∀ i o, ops[i]? = some o → A i = true → F i = false → clsA T o.op = 2 → (listed.getD i false = true ↔ i < p)
  inv : Inv Z1 φ1 (H p) w
  ext : Ext Z φ (H 0) w0 Z1 φ1 (H p) w
  slots : ∀ t m, m ≤ ops.size → (∀ k o, F k = true → ops[k]? = some o → o.dst ≠ some t) → (∀ k o, L k = true → ops[k]? = some o → listed.getD k false = true → o.dst ≠ some t) → (∀ i o, A i = true → ops[i]? = some o → o.dst = some t → (listed.getD i false = true ↔ i < m)) → ∀ v, lk (E m) t = some v → ∃ u, a.tmps[t]? = some u ∧ VR Z1 φ1 v u ∧ Sc (H p).n v
  pend : ∀ k o, F k = true → ops[k]? = some o → listed.getD k false = true → PendAt T (E ops.size) o nt a w0 w Z1 φ1 (H p) (π k)
  inj : ∀ k k' o o', F k = true → ops[k]? = some o → listed.getD k false = true → F k' = true → ops[k']? = some o' → listed.getD k' false = true → k ≠ k' → (π k).blk ≠ (π k').blk
  late : ∀ j o, L j = true → ops[j]? = some o → listed.getD j false = true → PendL T ops F EL o a Z1 φ1 (H p)
  defers : a.defers = a0.defers
  tmps : a.tmps.size = a0.tmps.size

theorem reach_inR (hO : OrdR T ops ps R A B F L) {listed : Array Bool} (hcl : ∀ j o, ops[j]? = some o → listed.getD j false = true → ∀ e ∈ o.after, Region.binds .any e = true → listed.getD e.on false = true) :
    ∀ j i o, ops[j]? = some o → R i j → (∀ e ∈ o.after, Region.binds .any e = true → listed.getD e.on false = true) → listed.getD i false = true := by
  intro j
  induction j using Nat.strongRecOn with
  | _ j ih =>
    intro i o ho hr he
    obtain ⟨e, h1, h2, h3⟩ := hO.step i j o hr ho
    rcases h3 with h3 | h3
    · rw [← h3]; exact he e h1 h2
    · have hlt := hO.down j o ho e h1 h2
      have hj : j < ops.size := (Array.getElem?_eq_some_iff.1 ho).1
      obtain ⟨o', ho'⟩ : ∃ o', ops[e.on]? = some o' := ⟨_, Array.getElem?_eq_getElem (by omega)⟩
      exact ih e.on hlt i o' ho' h3 (hcl e.on o' ho' (he e h1 h2))

set_option maxHeartbeats 4000000 in
theorem draw_ph (hT : TyT P T) (hC : CallOK P call) (hO : OrdR T ops ps R A B F L) (hW : WayR T call nt ops ps E H EL A F L) {w0 : World} {a0 : Act} (hn : nt ≤ a0.tmps.size) {Q : Exit → Act → World → Prop}
    (hK : ∀ (fuel : Nat) (listed : Array Bool) (a : Act) (w : World) (Z1 : Fz) (φ1 π : Nat → Pl), DInvR T ops nt E H EL A B F L Z φ w0 a0 listed a w Z1 φ1 ops.size π → (∀ i o, ops[i]? = some o → A i = true → listed.getD i false = true) → listed.toList.count false = fuel → wpAny P .any ops Q fuel listed a w) :
    ∀ (fuel : Nat) (listed : Array Bool) (a : Act) (w : World) (Z1 : Fz) (φ1 : Nat → Pl) (p : Nat) (π : Nat → Pl), DInvR T ops nt E H EL A B F L Z φ w0 a0 listed a w Z1 φ1 p π → listed.toList.count false = fuel → wpAny P .any ops Q fuel listed a w := by
  have hlt : ∀ i o, ops[i]? = some o → i < ops.size := fun i o ho => (Array.getElem?_eq_some_iff.1 ho).1
  have hat : ∀ i, i < ops.size → ∃ o, ops[i]? = some o := fun i hi => ⟨_, Array.getElem?_eq_getElem hi⟩
  have over : ∀ (fuel : Nat) (listed : Array Bool) (a : Act) (w : World) (Z1 : Fz) (φ1 : Nat → Pl) (p : Nat) (π : Nat → Pl), DInvR T ops nt E H EL A B F L Z φ w0 a0 listed a w Z1 φ1 p π → (∀ i o, ops[i]? = some o → A i = true → listed.getD i false = true) → listed.toList.count false = fuel → wpAny P .any ops Q fuel listed a w := by
    intro fuel listed a w Z1 φ1 p π D all hcount
    have hle := D.le
    have hp : H p = H ops.size := by
      rcases hW.first (p := p) (ops.size - p) (by omega) with h | ⟨j, o, h1, hA, h0, h2, h3, h4, _⟩
      · rw [h]; congr 1; omega
      · have := (D.eff j o h1 hA h0 h2).1 (all j o h1 hA)
        omega
    refine hK fuel listed a w Z1 φ1 π ⟨D.size, D.closed, D.lo, D.hi, Nat.le_refl _, ?_, hp ▸ D.inv, hp ▸ D.ext, ?_, fun k o h1 h4 h5 => hp ▸ D.pend k o h1 h4 h5, D.inj, fun j o h1 h2 h3 => hp ▸ D.late j o h1 h2 h3, D.defers, D.tmps⟩ all hcount
    · intro i o ho hA _ _
      exact ⟨fun _ => hlt i o ho, fun _ => all i o ho hA⟩
    · intro t m h2 h3 h3' h4 v hv
      rw [← hp]
      exact D.slots t m h2 h3 h3' h4 v hv
  have left : ∀ (listed : Array Bool) (a : Act) (w : World) (Z1 : Fz) (φ1 : Nat → Pl) (p : Nat) (π : Nat → Pl), DInvR T ops nt E H EL A B F L Z φ w0 a0 listed a w Z1 φ1 p π → Region.ready .any ops listed = [] → ∀ i o, ops[i]? = some o → listed.getD i false = true := by
    intro listed a w Z1 φ1 p π D hr i
    induction i using Nat.strongRecOn with
    | _ i ih =>
      intro o ho
      rcases Bool.eq_false_or_eq_true (listed.getD i false) with h | h
      · exact h
      · exfalso
        have : i ∈ Region.ready .any ops listed := by
          rw [mem_ready]
          refine ⟨?_, o, ho, fun e he hb => ?_⟩
          · have hs : i < listed.size := by rw [D.size]; exact hlt i o ho
            simpa [hs] using h
          · have := hO.down i o ho e he hb
            have hi := hlt i o ho
            obtain ⟨o', ho'⟩ := hat e.on (by omega)
            exact ih e.on this o' ho'
        rw [hr] at this
        cases this
  intro fuel
  induction fuel with
  | zero =>
    intro listed a w Z1 φ1 p π D hcount
    refine over 0 listed a w Z1 φ1 p π D (fun i o ho hi => ?_) hcount
    have hs : i < listed.size := by rw [D.size]; exact hlt i o ho
    rcases Bool.eq_false_or_eq_true (listed.getD i false) with h | h
    · exact h
    · have h2 : listed[i] = false := by simpa [hs] using h
      have : false ∈ listed.toList := by rw [← h2]; simp
      exact absurd hcount (by have := List.count_pos_iff.2 this; omega)
  | succ fuel ih =>
    intro listed a w Z1 φ1 p π D hcount
    by_cases hall : ∀ i o, ops[i]? = some o → A i = true → listed.getD i false = true
    · exact over (fuel + 1) listed a w Z1 φ1 p π D hall hcount
    refine ⟨fun hr => (hall fun i o ho _ => left listed a w Z1 φ1 p π D hr i o ho).elim, fun i hi => ?_⟩
    obtain ⟨hun, o, ho, hedge⟩ := mem_ready.1 hi
    have hil : i < ops.size := hlt i o ho
    have hls : i < listed.size := by rw [D.size]; exact hil
    have hun' : listed.getD i false = false := by simpa [hls] using hun
    have hin : ∀ j, R j i → listed.getD j false = true := fun j hr => reach_inR hO D.closed i j o ho hr hedge
    have hout : ∀ j oj, ops[j]? = some oj → R i j → ¬ listed.getD j false = true := fun j oj hj hr hs => by
      have := reach_inR hO D.closed j i oj hj hr (D.closed j oj hj hs)
      rw [hun'] at this; cases this
    have hBi : B i = false := by
      cases hB : B i with
      | false => rfl
      | true => have := D.lo i o ho hB; rw [hun'] at this; cases this
    have hole := D.le
    have hcnt : (listed.setIfInBounds i true).toList.count false = fuel := by
      rw [Array.toList_setIfInBounds, List.count_set (by simpa using hls)]
      have h2 : listed[i] = false := by simpa [hls] using hun
      simp [h2, hcount]
    have hclosed : ∀ j oj, ops[j]? = some oj → (listed.setIfInBounds i true).getD j false = true → ∀ e ∈ oj.after, Region.binds .any e = true → (listed.setIfInBounds i true).getD e.on false = true := by
      intro j oj hj hsj e he hb
      rw [getD_set hls] at hsj ⊢
      rcases hsj with h | h
      · exact .inl (D.closed j oj hj h e he hb)
      · subst h; rw [ho] at hj; cases hj; exact .inl (hedge e he hb)
    have hlo : ∀ j oj, ops[j]? = some oj → B j = true → (listed.setIfInBounds i true).getD j false = true := fun j oj hj h => (getD_set hls).2 (.inl (D.lo j oj hj h))
    have hsc : ∀ b y, (H p).get b = some y → b < (H p).n ∧ Scs (H p).n y.cells := D.inv.sc
    have hscl : ∀ b y, (H p).get b = some y → b < (H p).n := fun b y hb => (hsc b y hb).1
    cases hA : A i with
    | false =>
      -- one that runs early
      have hLi : L i = true := by
        cases hL : L i with
        | true => rfl
        | false => exact (hall fun j oj hj hAj => hin j (hO.cross j i oj o hAj hj hA hBi hL ho)).elim
      have hFi : F i = false := by
        cases hF : F i with
        | false => rfl
        | true => have := hO.fa i hF; rw [hA] at this; cases this
      obtain ⟨hcl, hgd, _⟩ := hO.la i o hLi ho
      obtain ⟨t, hd, htn, hva⟩ := hW.late i o hLi ho
      have hhi : ∀ j oj, ops[j]? = some oj → A j = false → B j = false → L j = false → ¬ (listed.setIfInBounds i true).getD j false = true := fun j oj hj h1 h2 h3 hs => by
        rcases (getD_set hls).1 hs with h' | h'
        · exact D.hi j oj hj h1 h2 h3 h'
        · subst h'; rw [hLi] at h3; cases h3
      have heff : ∀ j oj, ops[j]? = some oj → A j = true → F j = false → clsA T oj.op = 2 → ((listed.setIfInBounds i true).getD j false = true ↔ j < p) := by
        intro j oj hj h1 h3 h4
        rw [getD_set hls, D.eff j oj hj h1 h3 h4]
        constructor
        · rintro (h | h)
          · exact h
          · subst h; rw [hA] at h1; cases h1
        · exact .inl
      -- what is alike in both cases
      have rest : ∀ (u : Value) (Z2 : Fz) (φ2 : Nat → Pl) (w1 : World), Inv Z2 φ2 (H p) w1 → Ext Z φ (H 0) w0 Z2 φ2 (H p) w1 → (∀ B o, Z1 B = some o → Z2 B = some o) → (∀ b, b < (H p).n → φ2 b = φ1 b) →
          (∀ k ok, F k = true → ops[k]? = some ok → listed.getD k false = true → PendAt T (E ops.size) ok nt (a.put o.dst u) w0 w1 Z2 φ2 (H p) (π k)) →
          PendL T ops F EL o (a.put o.dst u) Z2 φ2 (H p) → wpAny P .any ops Q fuel (listed.setIfInBounds i true) (a.put o.dst u) w1 := by
        intro u Z2 φ2 w1 hI2 hx2 hz hph hpend hlate
        have hput2 : ∀ t', t ≠ t' → (a.put o.dst u).tmps[t']? = a.tmps[t']? := fun t' h => by
          rw [hd]
          simp only [Act.put]
          rw [Array.getElem?_setIfInBounds_ne h]
        refine ih _ _ _ Z2 φ2 p π ⟨by simp [D.size], hclosed, hlo, hhi, hole, heff, hI2, hx2, ?_, ?_, ?_, ?_, ?_, ?_⟩ hcnt
        · intro t' m hm1 hfd' hld' hcut' y hy
          have htt : t ≠ t' := fun e => hld' i o hLi ho ((getD_set hls).2 (.inr rfl)) (by rw [hd, e])
          obtain ⟨z, h1, h2, h3⟩ := D.slots t' m hm1 hfd' (fun k ok hk hok hlk => hld' k ok hk hok ((getD_set hls).2 (.inl hlk))) (fun j oj hAj hj hdj => by
            rw [← hcut' j oj hAj hj hdj, getD_set hls]
            constructor
            · exact .inl
            · rintro (h | h)
              · exact h
              · subst h; rw [hA] at hAj; cases hAj) y hy
          exact ⟨z, by rw [hput2 t' htt]; exact h1, VR_mono hph hz y z h3 h2, h3⟩
        · intro k ok hk hok hlk
          have hki : k ≠ i := fun e => by rw [e, hFi] at hk; cases hk
          exact hpend k ok hk hok (((getD_set hls).1 hlk).resolve_right hki)
        · intro k k' ok ok' hk hok hlk hk' hok' hlk' hne
          have hki : k ≠ i := fun e => by rw [e, hFi] at hk; cases hk
          have hki' : k' ≠ i := fun e => by rw [e, hFi] at hk'; cases hk'
          exact D.inj k k' ok ok' hk hok (((getD_set hls).1 hlk).resolve_right hki) hk' hok' (((getD_set hls).1 hlk').resolve_right hki') hne
        · intro j oj hj hoj hlj
          by_cases hji : j = i
          · subst hji; rw [ho] at hoj; cases hoj; exact hlate
          · refine (D.late j oj hj hoj (((getD_set hls).1 hlj).resolve_right hji)).keep hz hph (Nat.le_refl _) (fun t' ht' => hput2 t' ?_) (fun k b t' hk hb ht' _ => hput2 t' ?_)
            · intro e; subst e
              exact hO.lb2 i o j oj t hLi ho hd hj hoj hji ht'
            · intro e; subst e
              exact (hO.lb i o k b t hLi ho hd (hO.fa k hk) hb).2 ht'
        · rw [Act.put_defers']; exact D.defers
        · rw [← D.tmps]
          cases o.dst <;> simp [Act.put]
      have hpt : ∀ u, (a.put o.dst u).tmps[t]? = some u := fun u => by
        rw [hd]
        simp only [Act.put]
        rw [Array.getElem?_setIfInBounds]
        have := D.tmps
        simp
        omega
      have hput2 : ∀ u t', t ≠ t' → (a.put o.dst u).tmps[t']? = a.tmps[t']? := fun u t' h => by
        rw [hd]
        simp only [Act.put]
        rw [Array.getElem?_setIfInBounds_ne h]
      have hlooks : ∀ s, s ∈ o.looksAt ops → (∀ k b, F k = true → ops[k]? = some b → b.dst ≠ some s) → ∀ v, lk EL s = some v → ∃ u, a.tmps[s]? = some u ∧ VR Z1 φ1 v u ∧ Sc (H p).n v := by
        intro s hs hnf v hv
        by_cases hex : ∃ i' b, L i' = true ∧ ops[i']? = some b ∧ b.dst = some s
        · obtain ⟨i', b, hLb, hb, hdb⟩ := hex
          rcases hO.lc i o i' b s hLi ho hs hb hdb with h | h | h
          · have h1 := (hO.nla i' hLb).1
            rw [h.1] at h1; cases h1
          · have h1 := (hO.nla i' hLb).2
            rw [h] at h1; cases h1
          · obtain ⟨_, hR, hnb⟩ := h
            obtain ⟨t', u, q1, q2, q3⟩ := D.late i' b hLb hb (hin i' hR)
            rw [hdb] at q1
            cases q1
            rcases q3 with ⟨v', z1, z2, z3, z4⟩ | ⟨s', k, c, z1, z2, z3, z4, z5⟩
            · obtain ⟨t'', g1, _, g3⟩ := hW.late i' b hLb hb
              rw [hdb] at g1
              cases g1
              obtain ⟨v'', y1, y2⟩ := g3 hnb
              have e1 := z1 (H p)
              rw [y1 (H p)] at e1
              simp only [Option.some.injEq, Nx.val.injEq] at e1
              rw [hv] at y2
              cases y2
              have e2 := e1.1
              subst e2
              exact ⟨u, q2, z3, z4⟩
            · have hsl : s' ∈ b.looksAt ops := by
                unfold Oper.looksAt
                refine List.mem_append_left _ (List.mem_filterMap.2 ⟨.tmp s', ?_, rfl⟩)
                rcases z1 with h | h <;> rw [h] <;> simp [Op.operands]
              exact (hnb s' hsl k c z2 z3 z4).elim
        · rw [hW.lates i o s hLi ho hs (fun i' b h1 h2 h3 => hex ⟨i', b, h1, h2, h3⟩) hnf] at hv
          refine D.slots s ops.size (Nat.le_refl _) hnf (fun k b hk hb _ hdb => hex ⟨k, b, hk, hb, hdb⟩) (fun j oj hAj hj hdj => ⟨fun _ => hlt j oj hj, fun _ => ?_⟩) v hv
          rcases hO.lc i o j oj s hLi ho hs hj hdj with h | h | h
          · exact hin j h.2
          · exact D.lo j oj hj h
          · have h1 := (hO.nla j h.1).1
            rw [hAj] at h1; cases h1
      unfold wpOp
      simp only [ho]
      rcases hO.ld i o hLi ho with hnf | ⟨s, k, b, hop, hk, hb, hds⟩
      · obtain ⟨v0, hv0, hv0t⟩ := hva hnf
        have hst : opStep T call nt ops o EL (H p) = some ((t, v0) :: EL, H p) := by
          unfold opStep
          have hwt : wantedA ops o EL = some true := by unfold wantedA; rw [hgd]
          rw [hwt]
          simp only [hv0]
          unfold putE
          rw [hd]
          simp only []
          rw [if_pos htn]
        obtain ⟨env2, hst2, hput⟩ := opStep_restrict hst
        have hER : ER Z1 φ1 (H p).n (restrict (o.looksAt ops) EL) a.tmps := by
          intro s v hv
          have hs := lk_restrict_in _ s v hv
          exact hlooks s hs (hnf s hs) v (lk_restrict _ s v hv)
        refine opStep_wp (K := wpAny P .any ops Q fuel (listed.setIfInBounds i true)) hT hC hst2 hER D.inv ?_
        intro v u Z2 φ2 w1 hpv hv hs hI2 hx2
        have hpE := hput v hpv
        have hvg : v = v0 := by
          unfold putE at hpE
          rw [hd] at hpE
          simp only [] at hpE
          rw [if_pos htn] at hpE
          simpa using hpE
        subst hvg
        refine rest u Z2 φ2 w1 hI2 (D.ext.trans hx2) hx2.zz hx2.ph (fun k ok hk hok hlk => (D.pend k ok hk hok hlk).keep hx2 fun t' ht' => hput2 u t' ?_) ⟨t, u, hd, hpt u, .inl ⟨v, hv0, hnf, hv, hs⟩⟩
        intro e; subst e
        exact (hO.lb i o k ok t hLi ho hd (hO.fa k hk) hok).2 ht'
      · -- a copy of what leads to a new row
        have hsl : s ∈ o.looksAt ops := by
          unfold Oper.looksAt
          refine List.mem_append_left _ (List.mem_filterMap.2 ⟨.tmp s, ?_, rfl⟩)
          rcases hop with h | h <;> rw [h] <;> simp [Op.operands]
        have hkl : listed.getD k false = true := by
          rcases hO.lc i o k b s hLi ho hsl hb hds with h | h | h
          · exact hin k h.2
          · exact D.lo k b hb h
          · have h1 := (hO.nla k h.1).1
            rw [hO.fa k hk] at h1; cases h1
        obtain ⟨g, x, s', u, h1, h2, h3, h4, h5, h6, h7, h8, h9, h10, h11⟩ := D.pend k b hk hb hkl
        rw [hds] at h3
        cases h3
        have hscx : Scs (H p).n x.cells := Scs_mono (Nat.zero_le _) _ (Scs_scal _ h2)
        have hI' := D.inv.push_at (h8 Z1 φ1) h9 h10 hscx
        have hx' := D.ext.pushed (x := x) (pl := π k) hscl h11
        have hst : opStep T call nt ops o [(s, g (H p).n)] ((H p).push x) = some ((t, g (H p).n) :: [(s, g (H p).n)], (H p).push x) := by
          unfold opStep
          have hwt : wantedA ops o [(s, g (H p).n)] = some true := by unfold wantedA; rw [hgd]
          have hoa : opA T [(s, g (H p).n)] ((H p).push x) o.op = some (.val (g (H p).n) ((H p).push x)) := by
            rcases hop with h | h <;> rw [h] <;> simp [opA, evo, lk, nif_eq, valS]
          rw [hwt]
          simp only [hoa]
          unfold putE
          rw [hd]
          simp only []
          rw [if_pos htn]
        have hER : ER Z1 (upd φ1 (H p).n (π k)) ((H p).push x).n [(s, g (H p).n)] a.tmps := by
          intro s' v hv
          simp only [lk, nif_eq] at hv
          split at hv
          · rename_i e
            cases hv
            subst e
            exact ⟨u, h6, h7 _ _ _ upd_same, h1.sc (Nat.lt_succ_self _)⟩
          · cases hv
        refine opStep_wp (K := wpAny P .any ops Q fuel (listed.setIfInBounds i true)) hT hC hst hER hI' ?_
        intro v u2 Z2 φ2 w1 hpv hv hs hI2 hx2
        have hvg : v = g (H p).n := by
          unfold putE at hpv
          rw [hd] at hpv
          simp only [] at hpv
          rw [if_pos htn] at hpv
          simpa using hpv
        subst hvg
        have hφn : φ2 (H p).n = π k := by rw [hx2.ph _ (Nat.lt_succ_self _), upd_same]
        have huu : u2 = u := h1.det hv (h7 _ _ _ hφn)
        subst huu
        have hI3 := hI2.pop hsc
        have hreal := hI2.r (H p).n x (by rw [get_push, if_pos rfl])
        have hnz := hI2.nz (H p).n x (by rw [get_push, if_pos rfl])
        rw [hφn] at hreal hnz
        have hnf : ¬ FP (H p) φ2 (π k).blk := by
          rintro ⟨c, y, hc, hB⟩
          have hbn := hscl c y hc
          exact hI2.inj c (H p).n y x (by rw [get_push, if_neg (by omega)]; exact hc) (by rw [get_push, if_pos rfl]) (by omega) (by rw [hB, hφn])
        have hph : ∀ b, b < (H p).n → φ2 b = φ1 b := fun c hc => by rw [hx2.ph c (Nat.lt_succ_of_lt hc), upd_lt hc]
        have hts : t ≠ s := fun e => by
          subst e
          exact (hO.lb i o k b t hLi ho hd (hO.fa k hk) hb).2 hds
        refine rest u2 Z2 φ2 w1 hI3 ((hx'.trans hx2).pop D.ext.nn hscl) hx2.zz hph ?_ ⟨t, u2, hd, hpt u2, .inr ⟨s, k, b, hop, hk, hb, hds, by rw [hput2 u2 s hts]; exact h6⟩⟩
        intro k' ok hk' hok hlk
        by_cases hkk : k' = k
        · subst hkk
          rw [hb] at hok; cases hok
          exact ⟨g, x, s, u2, h1, h2, hds, h4, h5, by rw [hput2 u2 s hts]; exact h6, h7, fun Z' φ' => hreal.scal h2 rfl, hnz, hnf, h11⟩
        · have hpk := D.pend k' ok hk' hok hlk
          have hbl : (π k').blk ≠ (π k).blk := D.inj k' k ok b hk' hok hlk hk hb hkl hkk
          -- with the row of k in the heap
          have hpk2 : PendAt T (E ops.size) ok nt a w0 w Z1 (upd φ1 (H p).n (π k)) ((H p).push x) (π k') := by
            obtain ⟨g', x', t', u', q1, q2, q3, q4, q5, q6, q7, q8, q9, q10, q11⟩ := hpk
            refine ⟨g', x', t', u', q1, q2, q3, q4, q5, q6, q7, q8, q9, fun hf => ?_, q11⟩
            rcases FP_push hscl hf with e | e
            · exact hbl e
            · exact q10 e
          have hpk3 := hpk2.keep (a' := a.put o.dst u2) hx2 (fun t' ht' => hput2 u2 t' (fun e => by
            subst e
            exact (hO.lb i o k' ok t hLi ho hd (hO.fa k' hk') hok).2 ht'))
          obtain ⟨g', x', t', u', q1, q2, q3, q4, q5, q6, q7, q8, q9, q10, q11⟩ := hpk3
          refine ⟨g', x', t', u', q1, q2, q3, q4, q5, q6, q7, q8, q9, fun hf => q10 ?_, q11⟩
          obtain ⟨c, y, hc, hB⟩ := hf
          exact ⟨c, y, by rw [get_push, if_neg (by have := hscl c y hc; omega)]; exact hc, hB⟩
    | true =>
    have hLi : L i = false := by
      cases hL : L i with
      | false => rfl
      | true => have := (hO.nla i hL).1; rw [hA] at this; cases this
    have hhi : ∀ j oj, ops[j]? = some oj → A j = false → B j = false → L j = false → ¬ (listed.setIfInBounds i true).getD j false = true := fun j oj hj h1 h2 h3 hs => by
      rcases (getD_set hls).1 hs with h' | h'
      · exact D.hi j oj hj h1 h2 h3 h'
      · subst h'; rw [hA] at h1; cases h1
    have hcut : ∀ t, t ∈ o.looksAt ops → (F i = true → ∀ j oj, A j = true → ops[j]? = some oj → i < j → oj.dst ≠ some t) → ∀ j oj, A j = true → ops[j]? = some oj → oj.dst = some t → (listed.getD j false = true ↔ j < i) := by
      intro t ht hF2 j oj hAj hj hd
      constructor
      · intro hs
        rcases Nat.lt_trichotomy j i with h | h | h
        · exact h
        · subst h; rw [hun'] at hs; cases hs
        · exact (hout j oj hj (hO.r i j o oj t hA hAj ho hj h hd ht) hs).elim
      · intro h
        exact hin j (hO.w j i oj o t hAj hA hj ho h hd (.inl ht))
    have hfd : ∀ t, t ∈ o.looksAt ops → ∀ k ok, F k = true → ops[k]? = some ok → ok.dst ≠ some t := fun t ht k ok h1 h4 h5 => (hO.iso k i ok o t h1 hA h4 ho h5).1 ht
    have hldd : ∀ t, t ∈ o.looksAt ops → ∀ k ok, L k = true → ops[k]? = some ok → listed.getD k false = true → ok.dst ≠ some t := fun t ht k ok h1 h4 _ h5 => (hO.lb k ok i o t h1 h4 h5 hA ho).1 ht
    have hER : ER Z1 φ1 (H p).n (restrict (o.looksAt ops) (E i)) a.tmps := by
      intro t v hv
      have ht := lk_restrict_in _ t v hv
      exact D.slots t i (Nat.le_of_lt hil) (hfd t ht) (hldd t ht) (hcut t ht (fun hF j oj hAj hj h1 h3 => hO.iso2 i j o oj t hF h1 hAj ho hj h3 ht)) v (lk_restrict _ t v hv)
    -- what ran early stays
    have hlate : ∀ (u : Value) (Z2 : Fz) (φ2 : Nat → Pl) (σ2 : St), (∀ B o, Z1 B = some o → Z2 B = some o) → (∀ b, b < (H p).n → φ2 b = φ1 b) → (H p).n ≤ σ2.n → ∀ j oj, L j = true → ops[j]? = some oj → (listed.setIfInBounds i true).getD j false = true → PendL T ops F EL oj (a.put o.dst u) Z2 φ2 σ2 := by
      intro u Z2 φ2 σ2 hz hph hnn j oj hj hoj hlj
      have hji : j ≠ i := fun e => by rw [e, hLi] at hj; cases hj
      have hput2 : ∀ t', o.dst ≠ some t' → (a.put o.dst u).tmps[t']? = a.tmps[t']? := fun t' h => by
        cases hdd : o.dst with
        | none => rfl
        | some d =>
          simp only [Act.put]
          exact Array.getElem?_setIfInBounds_ne (fun e => h (by rw [hdd, e]))
      have hPL := D.late j oj hj hoj (((getD_set hls).1 hlj).resolve_right hji)
      obtain ⟨t, u0, h1, h2, h3⟩ := hPL
      refine ⟨t, u0, h1, by rw [hput2 t (hO.lb j oj i o t hj hoj h1 hA ho).2]; exact h2, ?_⟩
      rcases h3 with ⟨v, k1, k2, k3, k4⟩ | ⟨s, k, b, k1, k2, k3, k4, k5⟩
      · exact .inl ⟨v, k1, k2, VR_mono hph hz v u0 k4 k3, Sc_mono hnn v k4⟩
      · refine .inr ⟨s, k, b, k1, k2, k3, k4, ?_⟩
        have hsl : s ∈ oj.looksAt ops := by
          unfold Oper.looksAt
          refine List.mem_append_left _ (List.mem_filterMap.2 ⟨.tmp s, ?_, rfl⟩)
          rcases k1 with h | h <;> rw [h] <;> simp [Op.operands]
        by_cases hki : i = k
        · -- k has been done
          subst hki
          rcases hO.lc j oj i b s hj hoj hsl k3 k4 with h | h | h
          · have := reach_inR hO D.closed j i oj hoj h.2 (D.closed j oj hoj (((getD_set hls).1 hlj).resolve_right hji))
            rw [hun'] at this; cases this
          · rw [hBi] at h; cases h
          · rw [hLi] at h; cases h.1
        · rw [hput2 s ((hO.iso k i b o s k2 hA k3 ho k4).2 hki)]
          exact k5
    unfold wpOp
    simp only [ho]
    cases hF : F i with
    | true =>
      obtain ⟨hfo, hgd, _⟩ := hO.fr i o hF ho
      obtain ⟨g, x, t, hg, hx, hd, htn, hop1⟩ := hW.fresh i o hF ho
      have hEi : ∀ t', t' ∈ o.looksAt ops → lk (E i) t' = lk (E ops.size) t' := fun t' ht' => by
        have := hW.slot (p := i) (t := t') (ops.size - i) (by omega) (fun j oj hj hAj h0 h1 h2 h3 => by
          by_cases hji : j = i
          · subst hji; rw [hF] at h0; cases h0
          · exact hO.iso2 i j o oj t' hF (by omega) hAj ho hj h3 ht')
        rw [show i + (ops.size - i) = ops.size by omega] at this
        exact this.symm
      have hop : ∀ τ, opA T (E i) τ o.op = some (.val (g τ.n) (τ.push x)) := fun τ => by
        rw [← hop1 τ]
        refine opA_congr fun y hy => ?_
        cases y with
        | tmp s => exact hEi s (by unfold Oper.looksAt; exact List.mem_append_left _ (List.mem_filterMap.2 ⟨.tmp s, by simpa using hy, rfl⟩))
        | _ => rfl
      have hst : opStep T call nt ops o (E i) (H p) = some ((t, g (H p).n) :: E i, (H p).push x) := by
        unfold opStep
        have hwt : wantedA ops o (E i) = some true := by unfold wantedA; rw [hgd]
        rw [hwt]
        simp only [hop]
        unfold putE
        rw [hd]
        simp only []
        rw [if_pos htn]
      obtain ⟨env2, hst2, hput⟩ := opStep_restrict hst
      refine opStep_wp (K := wpAny P .any ops Q fuel (listed.setIfInBounds i true)) hT hC hst2 hER D.inv ?_
      intro v u Z2 φ2 w1 hpv hv hs hI2 hx2
      have hpE := hput v hpv
      have hvg : v = g (H p).n := by
        unfold putE at hpE
        rw [hd] at hpE
        simp only [] at hpE
        rw [if_pos htn] at hpE
        simpa using hpE
      subst hvg
      have hI3 := hI2.pop hsc
      have hx3 := hx2.pop (Nat.le_refl _) hscl
      have hreal := hI2.r (H p).n x (by rw [get_push, if_pos rfl])
      have hnz := hI2.nz (H p).n x (by rw [get_push, if_pos rfl])
      have hnf : ¬ FP (H p) φ2 (φ2 (H p).n).blk := by
        rintro ⟨b, y, hb, hB⟩
        have hbn := (hsc b y hb).1
        exact hI2.inj b (H p).n y x (by rw [get_push, if_neg (by omega)]; exact hb) (by rw [get_push, if_pos rfl]) (by omega) hB
      have hfr : w.heap.size ≤ (φ2 (H p).n).blk := by
        rcases hx2.fp (φ2 (H p).n).blk ⟨(H p).n, x, (by rw [get_push, if_pos rfl]), rfl⟩ with h | ⟨b, y, hb, hB⟩
        · exact h
        · have hbn := (hsc b y hb).1
          exact (hnf ⟨b, y, hb, by rw [hx2.ph b hbn]; exact hB⟩).elim
      have hput2 : ∀ t', t ≠ t' → (a.put o.dst u).tmps[t']? = a.tmps[t']? := fun t' h => by
        rw [hd]
        simp only [Act.put]
        rw [Array.getElem?_setIfInBounds_ne h]
      have hpt : (a.put o.dst u).tmps[t]? = some u := by
        rw [hd]
        simp only [Act.put]
        rw [Array.getElem?_setIfInBounds]
        have := D.tmps
        simp
        omega
      refine ih _ _ _ Z2 φ2 p (fun k => if k = i then φ2 (H p).n else π k) ⟨by simp [D.size], hclosed, hlo, hhi, hole, ?_, hI3, D.ext.trans hx3, ?_, ?_, ?_, hlate u Z2 φ2 (H p) hx3.zz hx3.ph (Nat.le_refl _), ?_, ?_⟩ hcnt
      · intro j oj hj h1 h3 h4
        rw [getD_set hls, D.eff j oj hj h1 h3 h4]
        constructor
        · rintro (h | h)
          · exact h
          · subst h; rw [hF] at h3; cases h3
        · exact .inl
      · intro t' m hm1 hfd' hld' hcut' y hy
        have htt : t ≠ t' := fun e => hfd' i o hF ho (by rw [hd, e])
        obtain ⟨z, h1, h2, h3⟩ := D.slots t' m hm1 hfd' (fun k ok hk hok hlk => hld' k ok hk hok ((getD_set hls).2 (.inl hlk))) (fun j oj hAj hj hdj => by
          rw [← hcut' j oj hAj hj hdj, getD_set hls]
          constructor
          · exact .inl
          · rintro (h | h)
            · exact h
            · subst h; rw [ho] at hj; cases hj; rw [hd] at hdj; exact (htt (Option.some.inj hdj)).elim) y hy
        exact ⟨z, by rw [hput2 t' htt]; exact h1, hx3.vr h3 h2, h3⟩
      · intro k ok hk hok hlk
        by_cases hki : k = i
        · subst hki
          rw [ho] at hok; cases hok
          simp only [if_true]
          refine ⟨g, x, t, u, hg, hx, hd, htn, hop1, hpt, fun Z' φ' m hm => hg.vr hv hm, fun Z' φ' => hreal.scal hx rfl, hnz, hnf, ?_⟩
          exact Nat.le_trans D.ext.sz hfr
        · simp only [if_neg hki]
          have hlk' : listed.getD k false = true := ((getD_set hls).1 hlk).resolve_right hki
          refine (D.pend k ok hk hok hlk').keep hx3 fun t' ht' => hput2 t' ?_
          intro e
          subst e
          exact (hO.iso k i ok o t hk hA hok ho ht').2 (fun e => hki e.symm) hd
      · intro k k' ok ok' hk hok hlk hk' hok' hlk' hne
        have old : ∀ j oj, F j = true → ops[j]? = some oj → (listed.setIfInBounds i true).getD j false = true → j ≠ i → (π j).blk < w.heap.size := fun j oj hj hoj hlj hji => by
          obtain ⟨_, _, _, _, _, _, _, _, _, _, _, h8, _⟩ := D.pend j oj hj hoj (((getD_set hls).1 hlj).resolve_right hji)
          obtain ⟨c, e, fz, k1, _⟩ := h8 Z φ
          exact (Array.getElem?_eq_some_iff.1 k1).1
        by_cases hki : k = i
        · by_cases hki' : k' = i
          · exact (hne (hki.trans hki'.symm)).elim
          · simp only [if_pos hki, if_neg hki']
            have := old k' ok' hk' hok' hlk' hki'
            omega
        · by_cases hki' : k' = i
          · simp only [if_neg hki, if_pos hki']
            have := old k ok hk hok hlk hki
            omega
          · simp only [if_neg hki, if_neg hki']
            exact D.inj k k' ok ok' hk hok (((getD_set hls).1 hlk).resolve_right hki) hk' hok' (((getD_set hls).1 hlk').resolve_right hki') hne
      · rw [Act.put_defers']; exact D.defers
      · rw [← D.tmps]
        cases o.dst <;> simp [Act.put]
    | false =>
      have hstep : ∃ p', p' ≤ ops.size ∧ opStep T call nt ops o (E i) (H p) = some (E (i + 1), H p') ∧ ∀ j oj, ops[j]? = some oj → A j = true → F j = false → clsA T oj.op = 2 → ((listed.getD j false = true ∨ j = i) ↔ j < p') := by
        have hs := hW.step i o hA hF ho
        have quiet : clsA T o.op ≠ 2 → ∀ j oj, ops[j]? = some oj → A j = true → F j = false → clsA T oj.op = 2 → ((listed.getD j false = true ∨ j = i) ↔ j < p) := by
          intro hc j oj hj h1 h3 hcj
          rw [D.eff j oj hj h1 h3 hcj]
          constructor
          · rintro (h | h)
            · exact h
            · subst h; rw [hj] at ho; cases ho; exact (hc hcj).elim
          · exact .inl
        rcases clsA_cases (T := T) o.op with hc | hc | hc
        · refine ⟨p, hole, ?_, quiet (by omega)⟩
          unfold opStep at hs ⊢
          split at hs
          · cases hs
          · rename_i hw
            split at hs
            case h_2 => cases hs
            rename_i e he
            simp only [Option.some.injEq, Prod.mk.injEq] at hs
            first | (rw [he]; simp [hs.1]; done) | (simp [hs.1]; done)
          · rename_i hw
            split at hs
            · cases hs
            · rename_i v s hop
              obtain ⟨v', hv, hall'⟩ := opA_pure hc hop
              cases hv
              rw [hall' (H p)]; simp only []
              split at hs
              case h_2 => cases hs
              rename_i e he
              simp only [Option.some.injEq, Prod.mk.injEq] at hs
              first | (rw [he]; simp [hs.1]; done) | (simp [hs.1]; done)
            · rename_i f args hop
              obtain ⟨v', hv, hall'⟩ := opA_pure hc hop
              cases hv
        · refine ⟨p, hole, ?_, quiet (by omega)⟩
          unfold opStep at hs ⊢
          split at hs
          · cases hs
          · rename_i hw
            split at hs
            case h_2 => cases hs
            rename_i e he
            simp only [Option.some.injEq, Prod.mk.injEq] at hs
            first | (rw [he]; simp [hs.1]; done) | (simp [hs.1]; done)
          · rename_i hw
            have stable : ∀ v s, opA T (E i) (H i) o.op = some (.val v s) → opA T (E i) (H p) o.op = some (.val v (H p)) := by
              intro v s hv
              have fix : ∀ q, H p = H q → (∃ v s s', opA T (E i) (H i) o.op = some (.val v s) ∧ opA T (E i) (H q) o.op = some (.val v s')) → opA T (E i) (H p) o.op = some (.val v (H p)) := by
                rintro q hq ⟨v', s1', s2', h1, h2⟩
                rw [hv] at h1
                cases h1
                obtain ⟨v2, h3⟩ := opA_read hc h2
                cases h3
                rw [hq]; exact h2
              by_cases hpi : p ≤ i
              · rcases hW.first (p := p) (i - p) (by omega) with h | ⟨j, oj, h1, hAj, h0, h2, h3, h4, h5⟩
                · exact fix i (by rw [h]; congr 1; omega) ⟨v, s, s, hv, hv⟩
                · have hnj : ¬ listed.getD j false = true := fun hx => by have := (D.eff j oj h1 hAj h0 h2).1 hx; omega
                  rcases hO.er j i oj o hAj hA h0 hF h1 ho (by omega) h2 hc with h | h
                  · exact (hnj (hin j h)).elim
                  · have := hW.pair i j o h ho hw
                    rw [if_pos (by omega)] at this
                    exact fix j h5 this
              · rcases hW.last (p := i) (p - i) (by omega) with h | ⟨j, oj, h1, hAj, h0, h2, h3, h4, h5⟩
                · exact fix i (by rw [h]; congr 1; omega) ⟨v, s, s, hv, hv⟩
                · have hsj : listed.getD j false = true := (D.eff j oj h1 hAj h0 h2).2 (by omega)
                  have hij : i < j := by
                    rcases Nat.lt_or_ge i j with h | h
                    · exact h
                    · have : i = j := by omega
                      subst this; rw [hun'] at hsj; cases hsj
                  rcases hO.re i j o oj hA hAj hF h0 ho h1 hij hc h2 with h | h
                  · exact (hout j oj h1 h hsj).elim
                  · have := hW.pair i j o h ho hw
                    rw [if_neg (by omega)] at this
                    exact fix (j + 1) (by rw [h5]; congr 1; omega) this
            split at hs
            · cases hs
            · rename_i v s hop
              rw [stable v s hop]; simp only []
              split at hs
              case h_2 => cases hs
              rename_i e he
              simp only [Option.some.injEq, Prod.mk.injEq] at hs
              first | (rw [he]; simp [hs.1]; done) | (simp [hs.1]; done)
            · rename_i f args hop
              obtain ⟨v', hv⟩ := opA_read hc hop
              cases hv
        · have hpi : p ≤ i := by
            rcases Nat.lt_or_ge i p with h | h
            · have := (D.eff i o ho hA hF hc).2 h
              rw [hun'] at this; cases this
            · exact h
          have hno : ∀ j oj, ops[j]? = some oj → A j = true → F j = false → clsA T oj.op = 2 → p ≤ j → ¬ j < i := by
            intro j oj h1 hAj h0 h2 h3 h4
            have := (D.eff j oj h1 hAj h0 h2).1 (hin j (hO.ee j i oj o hAj hA h0 hF h1 ho h4 h2 hc))
            omega
          have hH : H p = H i := by
            rcases hW.first (p := p) (i - p) (by omega) with h | ⟨j, oj, h1, hAj, h0, h2, h3, h4, h5⟩
            · rw [h]; congr 1; omega
            · exact (hno j oj h1 hAj h0 h2 h3 (by omega)).elim
          refine ⟨i + 1, hil, by rw [hH]; exact hs, fun j oj hj g1 g3 hcj => ?_⟩
          rw [D.eff j oj hj g1 g3 hcj]
          constructor
          · rintro (h | h) <;> omega
          · intro h
            by_cases hji : j = i
            · exact .inr hji
            · left
              rcases Nat.lt_or_ge j p with h' | h'
              · exact h'
              · exact (hno j oj hj g1 g3 hcj h' (by omega)).elim
      obtain ⟨p', hp', hst, heff⟩ := hstep
      obtain ⟨env2, hst2, hput⟩ := opStep_restrict hst
      refine opStep_wp (K := wpAny P .any ops Q fuel (listed.setIfInBounds i true)) hT hC hst2 hER D.inv ?_
      intro v u Z2 φ2 w1 hpv hv hs hI2 hx2
      have hpE := hput v hpv
      refine ih _ _ _ Z2 φ2 p' π ⟨by simp [D.size], hclosed, hlo, hhi, hp', ?_, hI2, D.ext.trans hx2, ?_, ?_, ?_, hlate u Z2 φ2 (H p') hx2.zz hx2.ph hx2.nn, ?_, ?_⟩ hcnt
      · intro j oj hj h1 h3 hcj
        rw [getD_set hls]; exact heff j oj hj h1 h3 hcj
      · intro t m hm1 hfd' hld' hcut' x hx
        have hsz' : a.tmps.size = a0.tmps.size := D.tmps
        by_cases hd : o.dst = some t
        · have him : i < m := (hcut' i o hA ho hd).1 ((getD_set hls).2 (.inr rfl))
          have hnot : ∀ j oj, ops[j]? = some oj → A j = true → F j = false → i + 1 ≤ j → j < (i + 1) + (m - (i + 1)) → oj.dst ≠ some t := by
            intro j oj hj hAj _ h1 h2 hdj
            have h3 := (hcut' j oj hAj hj hdj).2 (by omega)
            rw [getD_set hls] at h3
            rcases h3 with h3 | h3
            · exact hout j oj hj (hO.w i j o oj t hA hAj ho hj (by omega) hd (.inr hdj)) h3
            · omega
          have he := hW.slot (p := i + 1) (t := t) (m - (i + 1)) (by omega) hnot
          rw [show i + 1 + (m - (i + 1)) = m by omega] at he
          rw [he] at hx
          unfold putE at hpE
          rw [hd] at hpE
          simp only [] at hpE
          split at hpE
          case isFalse => cases hpE
          rename_i hlt'
          simp only [Option.some.injEq] at hpE
          rw [← hpE, lk_cons, if_pos rfl] at hx
          cases hx
          refine ⟨u, ?_, hv, hs⟩
          rw [hd]
          simp only [Act.put]
          rw [Array.getElem?_setIfInBounds]
          simp
          omega
        · have hcut0 : ∀ j oj, A j = true → ops[j]? = some oj → oj.dst = some t → (listed.getD j false = true ↔ j < m) := by
            intro j oj hAj hj hdj
            rw [← hcut' j oj hAj hj hdj, getD_set hls]
            constructor
            · exact .inl
            · rintro (h | h)
              · exact h
              · subst h; rw [ho] at hj; cases hj; exact (hd hdj).elim
          obtain ⟨y, h1, h2, h3⟩ := D.slots t m hm1 hfd' (fun k ok hk hok hlk => hld' k ok hk hok ((getD_set hls).2 (.inl hlk))) hcut0 x hx
          refine ⟨y, ?_, hx2.vr h3 h2, Sc_mono hx2.nn _ h3⟩
          cases hdd : o.dst with
          | none => exact h1
          | some d =>
            simp only [Act.put]
            rw [Array.getElem?_setIfInBounds_ne (fun e => hd (by rw [hdd, e]))]
            exact h1
      · intro k ok hk hok hlk
        have hki : k ≠ i := fun e => by rw [e, hF] at hk; cases hk
        refine (D.pend k ok hk hok (((getD_set hls).1 hlk).resolve_right hki)).keep hx2 fun t' ht' => ?_
        have hne := (hO.iso k i ok o t' hk hA hok ho ht').2 (fun e => hki e.symm)
        cases hdd : o.dst with
        | none => rfl
        | some d =>
          simp only [Act.put]
          exact Array.getElem?_setIfInBounds_ne (fun e => hne (by rw [hdd, e]))
      · intro k k' ok ok' hk hok hlk hk' hok' hlk' hne
        have hki : k ≠ i := fun e => by rw [e, hF] at hk; cases hk
        have hki' : k' ≠ i := fun e => by rw [e, hF] at hk'; cases hk'
        exact D.inj k k' ok ok' hk hok (((getD_set hls).1 hlk).resolve_right hki) hk' hok' (((getD_set hls).1 hlk').resolve_right hki') hne
      · rw [Act.put_defers']; exact D.defers
      · rw [← D.tmps]
        cases o.dst <;> simp [Act.put]
end
/-! ### New rows come into the heap -/
def Pends (T : Tab) (ops : Array Oper) (E1 : Env) (nt : Nat) (a : Act) (w0 w : World) (Z1 : Fz) (φ1 : Nat → Pl) (σ : St) : List Oper → List Pl → Prop
  | [], [] => True
  | o :: r, q :: qs => PendAt T E1 o nt a w0 w Z1 φ1 σ q ∧ o.guard = none ∧ (∀ q' ∈ qs, q'.blk ≠ q.blk) ∧ (∀ o' ∈ r, ∀ t, o.dst = some t → t ∉ o'.looksAt ops ∧ o'.dst ≠ some t) ∧ Pends T ops E1 nt a w0 w Z1 φ1 σ r qs
  | _, _ => False

theorem Pends.push {E1 : Env} {a : Act} {w0 : World} {Z1 : Fz} {φ1 : Nat → Pl} {x : Blk} {pl : Pl} (hlt : ∀ b y, σ.get b = some y → b < σ.n) : ∀ {l : List Oper} {qs : List Pl}, Pends T ops E1 nt a w0 w Z1 φ1 σ l qs → (∀ q ∈ qs, q.blk ≠ pl.blk) → Pends T ops E1 nt a w0 w Z1 (upd φ1 σ.n pl) (σ.push x) l qs
  | [], [], _, _ => trivial
  | o :: r, q :: qs, h, hne => by
    obtain ⟨⟨g, y, t, u, h1, h2, h3, h4, h5, h6, h7, h8, h9, h10, h11⟩, hg, hd, hi, hr⟩ := h
    refine ⟨⟨g, y, t, u, h1, h2, h3, h4, h5, h6, h7, h8, h9, ?_, h11⟩, hg, hd, hi, Pends.push hlt hr fun q' hq' => hne q' (by simp [hq'])⟩
    intro hf
    rcases FP_push hlt hf with k | k
    · exact hne q (by simp) k
    · exact h10 k
  | [], _ :: _, h, _ => h.elim
  | _ :: _, [], h, _ => h.elim

set_option maxHeartbeats 1000000 in
theorem mat {E1 : Env} {a : Act} {w0 : World} {Z1 : Fz} {σ0 : St} {X : Nat → Prop} : ∀ (l : List Oper) (qs : List Pl) (e : Env) (σ : St) (φ1 : Nat → Pl) (e2 : Env) (σ2 : St), runOps T call nt ops l e σ = some (e2, σ2) →
    Pends T ops E1 nt a w0 w Z1 φ1 σ l qs → (∀ o ∈ l, ∀ t, t ∈ o.looksAt ops → lk e t = lk E1 t) → Inv Z1 φ1 σ w → Ext Z φ σ0 w0 Z1 φ1 σ w →
    (∀ t v, ¬ X t → (∀ o ∈ l, o.dst ≠ some t) → lk e t = some v → ∃ u, a.tmps[t]? = some u ∧ VR Z1 φ1 v u ∧ Sc σ.n v) →
    ∃ φ2, Inv Z1 φ2 σ2 w ∧ Ext Z φ σ0 w0 Z1 φ2 σ2 w ∧ (∀ t v, ¬ X t → lk e2 t = some v → ∃ u, a.tmps[t]? = some u ∧ VR Z1 φ2 v u ∧ Sc σ2.n v) ∧ (∀ b, b < σ.n → φ2 b = φ1 b) ∧ σ.n ≤ σ2.n
  | [], [], e, σ, φ1, e2, σ2, h, _, _, hI, hx, hs => by
    simp only [runOps] at h
    cases h
    exact ⟨φ1, hI, hx, fun t v hX hv => hs t v hX (by simp) hv, fun _ _ => rfl, Nat.le_refl _⟩
  | o :: r, q :: qs, e, σ, φ1, e2, σ2, h, hp, hl, hI, hx, hs => by
    obtain ⟨⟨g, x, t, u, h1, h2, h3, h4, h5, h6, h7, h8, h9, h10, h11⟩, hg, hd, hi, hr⟩ := hp
    have hlt : ∀ b y, σ.get b = some y → b < σ.n := fun b y hb => (hI.sc b y hb).1
    have hop : opA T e σ o.op = some (.val (g σ.n) (σ.push x)) := by
      rw [← h5 σ]
      refine opA_congr fun y hy => ?_
      cases y with
      | tmp s => exact hl o (by simp) s (by unfold Oper.looksAt; exact List.mem_append_left _ (List.mem_filterMap.2 ⟨.tmp s, by simpa using hy, rfl⟩))
      | _ => rfl
    have hst : opStep T call nt ops o e σ = some ((t, g σ.n) :: e, σ.push x) := by
      unfold opStep
      have hwt : wantedA ops o e = some true := by unfold wantedA; rw [hg]
      rw [hwt]
      simp only [hop]
      unfold putE
      rw [h3]
      simp only []
      rw [if_pos h4]
    simp only [runOps, hst] at h
    have hsc : Scs σ.n x.cells := Scs_mono (Nat.zero_le _) _ (Scs_scal _ h2)
    have hI' := hI.push_at (h8 Z1 φ1) h9 h10 hsc
    have hx' : Ext Z φ σ0 w0 Z1 (upd φ1 σ.n q) (σ.push x) w := hx.pushed hlt h11
    suffices hh : ∃ φ2, Inv Z1 φ2 σ2 w ∧ Ext Z φ σ0 w0 Z1 φ2 σ2 w ∧ (∀ t v, ¬ X t → lk e2 t = some v → ∃ u, a.tmps[t]? = some u ∧ VR Z1 φ2 v u ∧ Sc σ2.n v) ∧ (∀ b, b < (σ.push x).n → φ2 b = upd φ1 σ.n q b) ∧ (σ.push x).n ≤ σ2.n by
      obtain ⟨φ2, g1, g2, g3, g4, g5⟩ := hh
      exact ⟨φ2, g1, g2, g3, fun b hb => (g4 b (Nat.lt_succ_of_lt hb)).trans (upd_lt hb), Nat.le_trans (Nat.le_succ _) g5⟩
    refine mat r qs _ _ _ e2 σ2 h (hr.push hlt hd) ?_ hI' hx' ?_
    · intro o' ho' t' ht'
      have := (hi o' ho' t h3).1
      have hne : ¬ t = t' := fun e => by subst e; exact this ht'
      rw [lk_cons, if_neg hne]
      exact hl o' (by simp [ho']) t' ht'
    · intro t' v hX hnd hv
      rw [lk_cons] at hv
      split at hv
      · rename_i ht
        cases hv
        subst ht
        exact ⟨u, h6, h7 Z1 _ _ upd_same, h1.sc (Nat.lt_succ_self _)⟩
      · rename_i ht
        obtain ⟨z, k1, k2, k3⟩ := hs t' v hX (fun o' ho' => by
          rcases List.mem_cons.1 ho' with rfl | ho'
          · rw [h3]; exact fun e => ht (Option.some.inj e)
          · exact hnd o' ho') hv
        exact ⟨z, k1, VR_mono (fun b hb => upd_lt hb) (fun _ _ h => h) v z k3 k2, Sc_mono (Nat.le_succ _) v k3⟩
  | [], _ :: _, _, _, _, _, _, _, h, _, _, _, _ => h.elim
  | _ :: _, [], _, _, _, _, _, _, h, _, _, _, _ => h.elim

/-! ### The look -/
def isCopy : Op → Bool
  | .move (.tmp _) => true
  | .assign (.tmp _) => true
  | _ => false
/-- 0: of the first part; 1: of the first part, makes a new row; 2: of the second part; 3, 4: of the second part, may run early (4: a copy); 9: none of these. -/
def kdOf (T : Tab) (ops : Array Oper) (tw lt : List Nat) (i : Nat) (o : Oper) : Nat :=
  bif memI i tw then
    bif memI i lt then (bif Nat.beq (clsA T o.op) 0 && o.guard.isNone && o.dst.isSome && !hits o.dst (o.looksAt ops) then (bif isCopy o.op then 4 else 3) else 9) else 2
  else bif freshOp T o.op then (bif o.guard.isNone && o.dst.isSome && !hits o.dst (o.looksAt ops) then 1 else 9) else 0
def kds (T : Tab) (ops : Array Oper) (tw lt : List Nat) : Nat → List Oper → List Nat
  | _, [] => []
  | i, o :: r => kdOf T ops tw lt i o :: kds T ops tw lt (i + 1) r
def one? (k : Nat) : Bool := Nat.ble k 1
def late? (k : Nat) : Bool := Nat.ble 3 k && Nat.ble k 4
def pairG (ki kj : Nat) (ps : List (Nat × Nat)) (bj i j : Nat) (a b : OI) : Bool :=
  bif one? ki then
    bif one? kj then
      bif Nat.beq ki 1 || Nat.beq kj 1 then (!Nat.beq ki 1 || (!hits a.dst b.looks && !sameDst a.dst b.dst && !hits b.dst a.looks)) && (!Nat.beq kj 1 || (!hits b.dst a.looks && !sameDst a.dst b.dst && (bj.testBit i || !hits a.dst b.looks)))
      else pairChk ps bj i j a b
    else bif late? kj then (bj.testBit i || !hits a.dst b.looks) && !hits b.dst a.looks && !sameDst a.dst b.dst && (Nat.beq kj 4 || !Nat.beq ki 1 || !hits a.dst b.looks)
    else bj.testBit i
  else bif one? kj then late? ki && !hits b.dst a.looks && !hits a.dst b.looks && !sameDst a.dst b.dst
  else pairChk [] bj i j a b && (!(late? ki || late? kj) || !sameDst a.dst b.dst) && (!late? kj || !hits a.dst b.looks || (Nat.beq ki 3 && bj.testBit i)) && (!late? ki || !hits b.dst a.looks)
def oneChkG (ois : List OI) (ks : List Nat) (bf : List Nat) (ps : List (Nat × Nat)) (j : Nat) : Bool :=
  match lstAt ois j, lstAt bf j, lstAt ks j with
  | some oj, some bj, some kj => aftChk j oj.aft && !Nat.beq kj 9 && allB j fun i => match lstAt ois i, lstAt ks i with
    | some oi, some ki => (!bj.testBit i || bitFrom bf i oj.aft) && pairG ki kj ps bj i j oi oj
    | _, _ => false
  | _, _, _ => false
def fenceGo (n : Nat) (ois : List OI) (ks : List Nat) (ps : List (Nat × Nat)) : Bool :=
  (fun bf => allB n fun j => oneChkG ois ks bf ps j) (bfGo ois [])
def fenceOK (T : Tab) (ops : Array Oper) (tw lt : List Nat) (ps : List (Nat × Nat)) : Bool :=
  fenceGo ops.size (ops.toList.map (oiOf T ops)) (kds T ops tw lt 0 ops.toList) ps

def onF (T : Tab) (ops : Array Oper) (tw : List Nat) (i : Nat) : Bool := !memI i tw && match ops[i]? with
  | some o => freshOp T o.op
  | none => false

theorem hits_of {t : Nat} {d : Option Nat} {l : List Nat} (hd : d = some t) (h : t ∈ l) : hits d l = true := by
  rw [hd]; exact memN_spec h
theorem sameDst_of {t : Nat} {a b : Option Nat} (ha : a = some t) (hb : b = some t) : sameDst a b = true := by
  rw [ha, hb]; exact Nat.beq_refl _
theorem kds_at {tw lt : List Nat} : ∀ (l : List Oper) (k i : Nat) (o : Oper), l[i]? = some o → lstAt (kds T ops tw lt k l) i = some (kdOf T ops tw lt (k + i) o)
  | [], _, _, _, h => by simp at h
  | x :: r, k, 0, o, h => by simp at h; subst h; rfl
  | x :: r, k, i + 1, o, h => by
    simp only [kds, lstAt]
    rw [kds_at r (k + 1) i o (by simpa using h)]
    congr 2; omega

/-- What the kinds mean. -/
theorem kd_cases {tw lt : List Nat} {i : Nat} {o : Oper} (h9 : kdOf T ops tw lt i o ≠ 9) :
    (memI i tw = false ∧ freshOp T o.op = false ∧ kdOf T ops tw lt i o = 0) ∨ (memI i tw = false ∧ freshOp T o.op = true ∧ kdOf T ops tw lt i o = 1 ∧ o.guard = none ∧ o.dst ≠ none ∧ ¬ hits o.dst (o.looksAt ops) = true) ∨
      (memI i tw = true ∧ memI i lt = false ∧ kdOf T ops tw lt i o = 2) ∨ (memI i tw = true ∧ memI i lt = true ∧ (kdOf T ops tw lt i o = 3 ∨ (kdOf T ops tw lt i o = 4 ∧ isCopy o.op = true)) ∧ clsA T o.op = 0 ∧ o.guard = none ∧ o.dst ≠ none ∧ ¬ hits o.dst (o.looksAt ops) = true) := by
  unfold kdOf at h9 ⊢
  cases ht : memI i tw with
  | false =>
    rw [ht] at h9
    simp only [cond_false] at h9 ⊢
    cases hf : freshOp T o.op with
    | false => left; simp
    | true =>
      rw [hf] at h9
      simp only [cond_true] at h9 ⊢
      right; left
      cases hc : (o.guard.isNone && o.dst.isSome && !hits o.dst (o.looksAt ops)) with
      | false => rw [hc] at h9; simp at h9
      | true =>
        simp only [Bool.and_eq_true, Bool.not_eq_true'] at hc
        refine ⟨by simp, by simp, by simp, by simpa using hc.1.1, fun e => by rw [e] at hc; simp at hc, by rw [hc.2]; simp⟩
  | true =>
    rw [ht] at h9
    simp only [cond_true] at h9 ⊢
    cases hl : memI i lt with
    | false => right; right; left; simp
    | true =>
      rw [hl] at h9
      simp only [cond_true] at h9 ⊢
      right; right; right
      cases hc : (Nat.beq (clsA T o.op) 0 && o.guard.isNone && o.dst.isSome && !hits o.dst (o.looksAt ops)) with
      | false => rw [hc] at h9; simp at h9
      | true =>
        simp only [Bool.and_eq_true, Bool.not_eq_true'] at hc
        refine ⟨by simp, by simp, ?_, Nat.eq_of_beq_eq_true hc.1.1.1, by simpa using hc.1.1.2, fun e => by rw [e] at hc; simp at hc, by rw [hc.2]; simp⟩
        simp only [cond_true]
        cases isCopy o.op <;> simp

set_option maxHeartbeats 4000000 in
theorem fence_spec {ops : Array Oper} {tw lt : List Nat} {ps : List (Nat × Nat)} (h : fenceOK T ops tw lt ps = true) :
    ∃ R, OrdR T ops ps R (fun i => !memI i tw) (fun _ => false) (onF T ops tw) (fun i => memI i tw && memI i lt) ∧ OrdR T ops [] R (fun i => memI i tw) (fun i => !memI i tw) (fun _ => false) (fun _ => false) := by
  unfold fenceOK fenceGo at h
  generalize bfGo (ops.toList.map (oiOf T ops)) [] = bf at h
  have hall := allB_spec h
  have hat : ∀ i o, ops[i]? = some o → lstAt (ops.toList.map (oiOf T ops)) i = some (oiOf T ops o) := by
    intro i o ho
    rw [lstAt_eq]; simp [ho]
  have hks : ∀ i o, ops[i]? = some o → lstAt (kds T ops tw lt 0 ops.toList) i = some (kdOf T ops tw lt i o) := by
    intro i o ho
    have := kds_at (T := T) (ops := ops) (tw := tw) (lt := lt) ops.toList 0 i o (by simpa using ho)
    rwa [Nat.zero_add] at this
  have hlt : ∀ i o, ops[i]? = some o → i < ops.size := fun i o ho => (Array.getElem?_eq_some_iff.1 ho).1
  have hFF : ∀ i o, ops[i]? = some o → onF T ops tw i = (!memI i tw && freshOp T o.op) := by
    intro i o ho
    unfold onF
    rw [ho]
  have one : ∀ j b, ops[j]? = some b → ∃ bj, lstAt bf j = some bj ∧ aftChk j (oiOf T ops b).aft = true ∧ kdOf T ops tw lt j b ≠ 9 ∧ ∀ i a, i < j → ops[i]? = some a → (!bj.testBit i || bitFrom bf i (oiOf T ops b).aft) = true ∧ pairG (kdOf T ops tw lt i a) (kdOf T ops tw lt j b) ps bj i j (oiOf T ops a) (oiOf T ops b) = true := by
    intro j b hb
    have h1 := hall j (hlt j b hb)
    unfold oneChkG at h1
    rw [hat j b hb, hks j b hb] at h1
    split at h1
    case h_2 => cases h1
    rename_i oj bj kj e1 e2 e3
    cases e1
    cases e3
    simp only [Bool.and_eq_true] at h1
    refine ⟨bj, e2, h1.1.1, fun h2 => ?_, fun i a hi ha => ?_⟩
    · have h3 := h1.1.2
      rw [h2] at h3
      cases h3
    · have h2 := allB_spec h1.2 i hi
      rw [hat i a ha, hks i a ha] at h2
      simpa using h2
  have haft : ∀ b e, e ∈ (oiOf T ops b).aft ↔ ∃ x ∈ b.after, Region.binds .any x = true ∧ x.on = e := by
    intro b e
    simp only [oiOf, List.mem_map, List.mem_filter]
    constructor
    · rintro ⟨x, ⟨h1, h2⟩, h3⟩; exact ⟨x, by simpa using h1, h2, h3⟩
    · rintro ⟨x, h1, h2, h3⟩; exact ⟨x, ⟨by simpa using h1, h2⟩, h3⟩
  let R : Nat → Nat → Prop := fun i j => i < j ∧ ∃ bj, lstAt bf j = some bj ∧ bj.testBit i = true
  have hdown : ∀ j o, ops[j]? = some o → ∀ e ∈ o.after, Region.binds .any e = true → e.on < j := by
    intro j b hb e he hbd
    obtain ⟨bj, h1, h2, h3⟩ := one j b hb
    exact aftChk_spec h2 _ ((haft b e.on).2 ⟨e, he, hbd, rfl⟩)
  have hstep : ∀ i j o, R i j → ops[j]? = some o → ∃ e ∈ o.after, Region.binds .any e = true ∧ (e.on = i ∨ R i e.on) := by
    rintro i j b ⟨hij, bj, h1, h2⟩ hb
    obtain ⟨bj', k1, k2, _, k3⟩ := one j b hb
    rw [h1] at k1; cases k1
    have hi : i < ops.size := Nat.lt_trans hij (hlt j b hb)
    obtain ⟨h4, _⟩ := k3 i ops[i] hij (by simp [hi])
    rw [h2] at h4
    simp only [Bool.not_true, Bool.false_or] at h4
    obtain ⟨e, he, h5⟩ := bitFrom_spec h4
    obtain ⟨x, p1, p2, p3⟩ := (haft b e).1 he
    refine ⟨x, p1, p2, ?_⟩
    rw [p3]
    rcases h5 with h5 | h5
    · exact .inl h5
    · exact .inr h5
  have bt : ∀ (x y : Nat), x = y → Nat.beq x y = true := fun x y e => by subst e; exact Nat.beq_refl _
  have ord : ∀ qs i j a b bj, lstAt bf j = some bj → i < j → pairChk qs bj i j (oiOf T ops a) (oiOf T ops b) = true → R i j ∨
      ((¬ confl (oiOf T ops a) (oiOf T ops b) = true) ∧ (¬ (clsA T a.op = 2 ∧ clsA T b.op = 2)) ∧ (clsA T a.op = 1 → clsA T b.op = 2 → (i, j) ∈ qs) ∧ (clsA T a.op = 2 → clsA T b.op = 1 → (j, i) ∈ qs)) := by
    intro qs i j a b bj h1 hij h5
    unfold pairChk at h5
    simp only [Bool.or_eq_true, Bool.and_eq_true, Bool.not_eq_true', Bool.and_eq_false_iff] at h5
    rcases h5 with h5 | ⟨⟨⟨h5, h6⟩, h7⟩, h8⟩
    · exact .inl ⟨hij, bj, h1, h5⟩
    · refine .inr ⟨by simp [h5], ?_, ?_, ?_⟩
      · rintro ⟨p, q⟩
        rcases h6 with h6 | h6
        · rw [show (oiOf T ops a).cls.beq 2 = true from bt _ _ p] at h6; cases h6
        · rw [show (oiOf T ops b).cls.beq 2 = true from bt _ _ q] at h6; cases h6
      · intro p q
        rcases h7 with (h7 | h7) | h7
        · rw [show (oiOf T ops a).cls.beq 1 = true from bt _ _ p] at h7; cases h7
        · rw [show (oiOf T ops b).cls.beq 2 = true from bt _ _ q] at h7; cases h7
        · exact of_memP h7
      · intro p q
        rcases h8 with (h8 | h8) | h8
        · rw [show (oiOf T ops a).cls.beq 2 = true from bt _ _ p] at h8; cases h8
        · rw [show (oiOf T ops b).cls.beq 1 = true from bt _ _ q] at h8; cases h8
        · exact of_memP h8
  have pc : ∀ i j a b, ops[i]? = some a → ops[j]? = some b → i < j → ∃ bj, lstAt bf j = some bj ∧ pairG (kdOf T ops tw lt i a) (kdOf T ops tw lt j b) ps bj i j (oiOf T ops a) (oiOf T ops b) = true := by
    intro i j a b ha hb hij
    obtain ⟨bj, h1, _, _, h3⟩ := one j b hb
    exact ⟨bj, h1, (h3 i a hij ha).2⟩
  have kc := fun i o (ho : ops[i]? = some o) => kd_cases (T := T) (ops := ops) (tw := tw) (lt := lt) (i := i) (o := o) (by obtain ⟨_, _, _, h, _⟩ := one i o ho; exact h)
  have kOne : ∀ i o, ops[i]? = some o → memI i tw = false → one? (kdOf T ops tw lt i o) = true ∧ (Nat.beq (kdOf T ops tw lt i o) 1 = freshOp T o.op) := by
    intro i o ho hm
    rcases kc i o ho with ⟨_, h2, h3⟩ | ⟨_, h2, h3, _⟩ | ⟨h1, _⟩ | ⟨h1, _⟩
    · rw [h3, h2]; exact ⟨rfl, rfl⟩
    · rw [h3, h2]; exact ⟨rfl, rfl⟩
    · rw [hm] at h1; cases h1
    · rw [hm] at h1; cases h1
  have kTwo : ∀ i o, ops[i]? = some o → memI i tw = true → one? (kdOf T ops tw lt i o) = false ∧ late? (kdOf T ops tw lt i o) = memI i lt := by
    intro i o ho hm
    rcases kc i o ho with ⟨h1, _⟩ | ⟨h1, _⟩ | ⟨_, h2, h3⟩ | ⟨_, h2, h3 | ⟨h3, _⟩, _⟩
    · rw [hm] at h1; cases h1
    · rw [hm] at h1; cases h1
    · rw [h3, h2]; exact ⟨rfl, rfl⟩
    · rw [h3, h2]; exact ⟨rfl, rfl⟩
    · rw [h3, h2]; exact ⟨rfl, rfl⟩
  -- both of the second part
  have pc2 : ∀ i j a b, ops[i]? = some a → ops[j]? = some b → memI i tw = true → memI j tw = true → i < j → (R i j ∨ ((¬ confl (oiOf T ops a) (oiOf T ops b) = true) ∧ (¬ (clsA T a.op = 2 ∧ clsA T b.op = 2)) ∧ (clsA T a.op = 1 → clsA T b.op = 2 → (i, j) ∈ ([] : List (Nat × Nat))) ∧ (clsA T a.op = 2 → clsA T b.op = 1 → (j, i) ∈ ([] : List (Nat × Nat))))) ∧
      ((memI i lt = true ∨ memI j lt = true) → ¬ sameDst a.dst b.dst = true) ∧ (memI j lt = true → ¬ hits a.dst (b.looksAt ops) = true ∨ (kdOf T ops tw lt i a = 3 ∧ R i j)) ∧ (memI i lt = true → ¬ hits b.dst (a.looksAt ops) = true) := by
    intro i j a b ha hb hi hj hij
    obtain ⟨bj, h1, h2⟩ := pc i j a b ha hb hij
    unfold pairG at h2
    rw [(kTwo i a ha hi).1, (kTwo j b hb hj).1, (kTwo i a ha hi).2, (kTwo j b hb hj).2] at h2
    simp only [cond_false, Bool.and_eq_true, Bool.or_eq_true, Bool.not_eq_true', Bool.or_eq_false_iff] at h2
    obtain ⟨⟨⟨g1, g2⟩, g3⟩, g4⟩ := h2
    refine ⟨ord [] i j a b bj h1 hij g1, fun p => ?_, fun p => ?_, fun p => ?_⟩
    · rcases g2 with g | g
      · rcases p with p | p
        · rw [p] at g; cases g.1
        · rw [p] at g; cases g.2
      · rw [show sameDst a.dst b.dst = false from g]; simp
    · rcases g3 with (g | g) | g
      · rw [p] at g; cases g
      · exact .inl (by rw [show hits a.dst (b.looksAt ops) = false from g]; simp)
      · exact .inr ⟨Nat.eq_of_beq_eq_true g.1, hij, bj, h1, g.2⟩
    · rcases g4 with g | g
      · rw [p] at g; cases g
      · rw [show hits b.dst (a.looksAt ops) = false from g]; simp
  have pc1 : ∀ i j a b, ops[i]? = some a → ops[j]? = some b → memI i tw = false → memI j tw = false → i < j → freshOp T a.op = false → freshOp T b.op = false → R i j ∨ ((¬ confl (oiOf T ops a) (oiOf T ops b) = true) ∧ (¬ (clsA T a.op = 2 ∧ clsA T b.op = 2)) ∧ (clsA T a.op = 1 → clsA T b.op = 2 → (i, j) ∈ ps) ∧ (clsA T a.op = 2 → clsA T b.op = 1 → (j, i) ∈ ps)) := by
    intro i j a b ha hb hi hj hij hfa' hfb'
    obtain ⟨bj, h1, h2⟩ := pc i j a b ha hb hij
    unfold pairG at h2
    rw [(kOne i a ha hi).1, (kOne j b hb hj).1, (kOne i a ha hi).2, (kOne j b hb hj).2, hfa', hfb'] at h2
    exact ord ps i j a b bj h1 hij h2
  have pcf : ∀ i j a b, ops[i]? = some a → ops[j]? = some b → memI i tw = false → memI j tw = false → i < j → (freshOp T a.op = true → ¬ hits a.dst (b.looksAt ops) = true ∧ ¬ sameDst a.dst b.dst = true ∧ ¬ hits b.dst (a.looksAt ops) = true) ∧
      (freshOp T b.op = true → ¬ hits b.dst (a.looksAt ops) = true ∧ ¬ sameDst a.dst b.dst = true ∧ (R i j ∨ ¬ hits a.dst (b.looksAt ops) = true)) := by
    intro i j a b ha hb hi hj hij
    obtain ⟨bj, h1, h2⟩ := pc i j a b ha hb hij
    unfold pairG at h2
    rw [(kOne i a ha hi).1, (kOne j b hb hj).1, (kOne i a ha hi).2, (kOne j b hb hj).2] at h2
    simp only [cond_true] at h2
    constructor
    · intro hf
      rw [hf] at h2
      simp only [Bool.true_or, cond_true, Bool.not_true, Bool.false_or, Bool.and_eq_true, Bool.not_eq_true'] at h2
      have h3 := h2.1
      exact ⟨by rw [show hits a.dst (b.looksAt ops) = false from h3.1.1]; simp, by rw [show sameDst a.dst b.dst = false from h3.1.2]; simp, by rw [show hits b.dst (a.looksAt ops) = false from h3.2]; simp⟩
    · intro hf
      rw [hf] at h2
      simp only [Bool.or_true, cond_true, Bool.not_true, Bool.false_or, Bool.and_eq_true, Bool.not_eq_true', Bool.or_eq_true] at h2
      have h3 := h2.2
      refine ⟨by rw [show hits b.dst (a.looksAt ops) = false from h3.1.1]; simp, by rw [show sameDst a.dst b.dst = false from h3.1.2]; simp, ?_⟩
      rcases h3.2 with h4 | h4
      · exact .inl ⟨hij, bj, h1, h4⟩
      · exact .inr (by rw [show hits a.dst (b.looksAt ops) = false from h4]; simp)
  -- the first of the first part, the second of the second
  have pc12 : ∀ i j a b, ops[i]? = some a → ops[j]? = some b → memI i tw = false → memI j tw = true → i < j → (memI j lt = false → R i j) ∧
      (memI j lt = true → (R i j ∨ ¬ hits a.dst (b.looksAt ops) = true) ∧ ¬ hits b.dst (a.looksAt ops) = true ∧ ¬ sameDst a.dst b.dst = true ∧ ((kdOf T ops tw lt j b = 4 ∧ isCopy b.op = true) ∨ freshOp T a.op = false ∨ ¬ hits a.dst (b.looksAt ops) = true)) := by
    intro i j a b ha hb hi hj hij
    obtain ⟨bj, h1, h2⟩ := pc i j a b ha hb hij
    unfold pairG at h2
    have hc := kc j b hb
    rw [(kOne i a ha hi).1, (kTwo j b hb hj).1, (kTwo j b hb hj).2, (kOne i a ha hi).2] at h2
    simp only [cond_true, cond_false] at h2
    constructor
    · intro hl
      rw [hl] at h2
      exact ⟨hij, bj, h1, h2⟩
    · intro hl
      rw [hl] at h2
      simp only [cond_true, Bool.and_eq_true, Bool.or_eq_true, Bool.not_eq_true'] at h2
      obtain ⟨⟨⟨g1, g2⟩, g3⟩, g4⟩ := h2
      refine ⟨?_, by rw [show hits b.dst (a.looksAt ops) = false from g2]; simp, by rw [show sameDst a.dst b.dst = false from g3]; simp, ?_⟩
      · rcases g1 with g | g
        · exact .inl ⟨hij, bj, h1, g⟩
        · exact .inr (by rw [show hits a.dst (b.looksAt ops) = false from g]; simp)
      · rcases g4 with (g | g) | g
        · rcases hc with ⟨h, _⟩ | ⟨h, _⟩ | ⟨_, h, _⟩ | ⟨_, _, h | h, _⟩
          · rw [hj] at h; cases h
          · rw [hj] at h; cases h
          · rw [hl] at h; cases h
          · rw [h] at g; cases g
          · exact .inl h
        · exact .inr (.inl g)
        · exact .inr (.inr (by rw [show hits a.dst (b.looksAt ops) = false from g]; simp))
  have pc21 : ∀ i j a b, ops[i]? = some a → ops[j]? = some b → memI i tw = true → memI j tw = false → i < j → memI i lt = true ∧ ¬ hits b.dst (a.looksAt ops) = true ∧ ¬ hits a.dst (b.looksAt ops) = true ∧ ¬ sameDst a.dst b.dst = true := by
    intro i j a b ha hb hi hj hij
    obtain ⟨bj, h1, h2⟩ := pc i j a b ha hb hij
    unfold pairG at h2
    rw [(kTwo i a ha hi).1, (kOne j b hb hj).1, (kTwo i a ha hi).2] at h2
    simp only [cond_true, cond_false, Bool.and_eq_true, Bool.not_eq_true'] at h2
    exact ⟨h2.1.1.1, by rw [show hits b.dst (a.looksAt ops) = false from h2.1.1.2]; simp, by rw [show hits a.dst (b.looksAt ops) = false from h2.1.2]; simp, by rw [show sameDst a.dst b.dst = false from h2.2]; simp⟩
  have cw : ∀ {a b : Oper} {t : Nat}, a.dst = some t → (t ∈ b.looksAt ops ∨ b.dst = some t) → confl (oiOf T ops a) (oiOf T ops b) = true := by
    intro a b t hd ht
    simp only [confl, oiOf, Bool.or_eq_true]
    rcases ht with ht | ht
    · exact .inl (.inl (hits_of hd ht))
    · exact .inr (sameDst_of hd ht)
  have cr : ∀ {a b : Oper} {t : Nat}, b.dst = some t → t ∈ a.looksAt ops → confl (oiOf T ops a) (oiOf T ops b) = true := by
    intro a b t hd ht
    simp only [confl, oiOf, Bool.or_eq_true]
    exact .inl (.inr (hits_of hd ht))
  have nt' : ∀ {x : Bool}, (!x) = true → x = false := fun {x} h => by cases x <;> simp at h ⊢
  have nf' : ∀ {x : Bool}, (!x) = false → x = true := fun {x} h => by cases x <;> simp at h ⊢
  have and2 : ∀ {x y : Bool}, (x && y) = true → x = true ∧ y = true := fun {x y} h => by cases x <;> cases y <;> simp at h ⊢
  have onF1 : ∀ k, onF T ops tw k = true → memI k tw = false := fun k h => by
    unfold onF at h
    exact nt' (and2 h).1
  have onF2 : ∀ k a, ops[k]? = some a → onF T ops tw k = true → freshOp T a.op = true := fun k a ha h => by
    rw [hFF k a ha] at h
    exact (and2 h).2
  have onF3 : ∀ k a, ops[k]? = some a → memI k tw = false → onF T ops tw k = false → freshOp T a.op = false := fun k a ha hm h => by
    rw [hFF k a ha, hm] at h
    simpa using h
  refine ⟨R, ⟨hdown, hstep, ?_, ?_, ?_, ?_, ?_, ?_, ?_, ?_, ?_, ?_, ?_, ?_, ?_, ?_, ?_, ?_, ?_, fun _ _ h => h.1, ?_⟩, ⟨hdown, hstep, ?_, ?_, ?_, ?_, ?_, ?_, ?_, ?_, ?_, ?_, ?_, ?_, ?_, ?_, ?_, ?_, ?_, fun _ _ h => h.1, ?_⟩⟩
  -- cross
  · intro i j a o hA ha hA' _ hL ho
    have hi := nt' hA
    have hj := nf' hA'
    have hl : memI j lt = false := by
      simp only [hj, Bool.true_and] at hL
      exact hL
    rcases Nat.lt_trichotomy i j with h | h | h
    · exact (pc12 i j a o ha ho hi hj h).1 hl
    · subst h; rw [hi] at hj; cases hj
    · have := (pc21 j i o a ho ha hj hi h).1
      rw [hl] at this; cases this
  -- fa
  · intro i hF
    rw [onF1 i hF]; rfl
  -- nla
  · intro i hL
    have := and2 hL
    rw [this.1]; exact ⟨rfl, rfl⟩
  · intro i hB
    cases hB
  -- w
  · intro i j a b t hA hA' ha hb hij hd ht
    have hi := nt' hA
    have hj := nt' hA'
    cases hfa' : freshOp T a.op with
    | true =>
      obtain ⟨h1, h2, _⟩ := (pcf i j a b ha hb hi hj hij).1 hfa'
      rcases ht with ht | ht
      · exact (h1 (hits_of hd ht)).elim
      · exact (h2 (sameDst_of hd ht)).elim
    | false =>
      cases hfb' : freshOp T b.op with
      | true =>
        obtain ⟨_, h2, h3⟩ := (pcf i j a b ha hb hi hj hij).2 hfb'
        rcases ht with ht | ht
        · exact h3.resolve_right (fun h => h (hits_of hd ht))
        · exact (h2 (sameDst_of hd ht)).elim
      | false => exact (pc1 i j a b ha hb hi hj hij hfa' hfb').resolve_right (fun h => h.1 (cw hd ht))
  -- r
  · intro i j a b t hA hA' ha hb hij hd ht
    have hi := nt' hA
    have hj := nt' hA'
    cases hfa' : freshOp T a.op with
    | true => exact (((pcf i j a b ha hb hi hj hij).1 hfa').2.2 (hits_of hd ht)).elim
    | false =>
      cases hfb' : freshOp T b.op with
      | true => exact (((pcf i j a b ha hb hi hj hij).2 hfb').1 (hits_of hd ht)).elim
      | false => exact (pc1 i j a b ha hb hi hj hij hfa' hfb').resolve_right (fun h => h.1 (cr hd ht))
  -- ee re er
  · intro i j a b hA hA' hFi hFj ha hb hij p q
    have hi := nt' hA
    have hj := nt' hA'
    exact (pc1 i j a b ha hb hi hj hij (onF3 i a ha hi hFi) (onF3 j b hb hj hFj)).resolve_right (fun h => h.2.1 ⟨p, q⟩)
  · intro i j a b hA hA' hFi hFj ha hb hij p q
    have hi := nt' hA
    have hj := nt' hA'
    exact (pc1 i j a b ha hb hi hj hij (onF3 i a ha hi hFi) (onF3 j b hb hj hFj)).imp id (fun h => h.2.2.1 p q)
  · intro i j a b hA hA' hFi hFj ha hb hij p q
    have hi := nt' hA
    have hj := nt' hA'
    exact (pc1 i j a b ha hb hi hj hij (onF3 i a ha hi hFi) (onF3 j b hb hj hFj)).imp id (fun h => h.2.2.2 p q)
  -- iso
  · intro k j a b t hF hA' ha hb hd
    have hk := onF1 k hF
    have hf := onF2 k a ha hF
    have hj := nt' hA'
    rcases Nat.lt_trichotomy k j with h | h | h
    · obtain ⟨h1, h2, _⟩ := (pcf k j a b ha hb hk hj h).1 hf
      exact ⟨fun ht => h1 (hits_of hd ht), fun _ ht => h2 (sameDst_of hd ht)⟩
    · subst h
      rw [ha] at hb; cases hb
      refine ⟨fun ht => ?_, fun h => (h rfl).elim⟩
      rcases kc k a ha with ⟨_, h, _⟩ | ⟨_, _, _, _, _, h⟩ | ⟨h, _⟩ | ⟨h, _⟩
      · rw [hf] at h; cases h
      · exact h (hits_of hd ht)
      · rw [hk] at h; cases h
      · rw [hk] at h; cases h
    · obtain ⟨h1, h2, _⟩ := (pcf j k b a hb ha hj hk h).2 hf
      exact ⟨fun ht => h1 (hits_of hd ht), fun _ ht => h2 (sameDst_of ht hd)⟩
  -- iso2
  · intro k j a b t hF hkj hA' ha hb hd ht
    exact ((pcf k j a b ha hb (onF1 k hF) (nt' hA') hkj).1 (onF2 k a ha hF)).2.2 (hits_of hd ht)
  -- fr
  · intro k a hF ha
    have hk := onF1 k hF
    have hf := onF2 k a ha hF
    rcases kc k a ha with ⟨_, h, _⟩ | ⟨_, _, _, h1, h2, _⟩ | ⟨h, _⟩ | ⟨h, _⟩
    · rw [hf] at h; cases h
    · exact ⟨hf, h1, h2⟩
    · rw [hk] at h; cases h
    · rw [hk] at h; cases h
  -- la
  · intro j o hL ho
    have hm := and2 hL
    rcases kc j o ho with ⟨h, _⟩ | ⟨h, _⟩ | ⟨_, h, _⟩ | ⟨_, _, _, h1, h2, h3, _⟩
    · rw [hm.1] at h; cases h
    · rw [hm.1] at h; cases h
    · rw [hm.2] at h; cases h
    · exact ⟨h1, h2, h3⟩
  -- lb
  · intro j o i b t hL ho hd hA hb
    have hm := and2 hL
    have hi := nt' hA
    rcases Nat.lt_trichotomy i j with h | h | h
    · obtain ⟨_, h2, h3, _⟩ := (pc12 i j b o hb ho hi hm.1 h).2 hm.2
      exact ⟨fun ht => h2 (hits_of hd ht), fun ht => h3 (sameDst_of ht hd)⟩
    · subst h; rw [hi] at hm; cases hm.1
    · obtain ⟨_, _, h2, h3⟩ := pc21 j i o b ho hb hm.1 hi h
      exact ⟨fun ht => h2 (hits_of hd ht), fun ht => h3 (sameDst_of hd ht)⟩
  -- lb2
  · intro j o i b t hL ho hd hL' hb hne ht
    have hm := and2 hL
    have hm' := and2 hL'
    rcases Nat.lt_trichotomy i j with h | h | h
    · exact (pc2 i j b o hb ho hm'.1 hm.1 h).2.1 (.inl hm'.2) (sameDst_of ht hd)
    · exact hne h
    · exact (pc2 j i o b ho hb hm.1 hm'.1 h).2.1 (.inl hm.2) (sameDst_of hd ht)
  -- lc
  · intro j o i b t hL ho ht hb hd
    have hm := and2 hL
    cases hi : memI i tw with
    | false =>
      left
      refine ⟨rfl, ?_⟩
      rcases Nat.lt_trichotomy i j with h | h | h
      · exact ((pc12 i j b o hb ho hi hm.1 h).2 hm.2).1.resolve_right (fun h' => h' (hits_of hd ht))
      · subst h; rw [hi] at hm; cases hm.1
      · exact ((pc21 j i o b ho hb hm.1 hi h).2.1 (hits_of hd ht)).elim
    | true =>
      right; right
      rcases Nat.lt_trichotomy i j with h | h | h
      · rcases (pc2 i j b o hb ho hi hm.1 h).2.2.1 hm.2 with h' | ⟨h3, hR⟩
        · exact (h' (hits_of hd ht)).elim
        · have hil : memI i lt = true := by
            rcases kc i b hb with ⟨h, _⟩ | ⟨h, _⟩ | ⟨_, _, h⟩ | ⟨_, h, _⟩
            · rw [hi] at h; cases h
            · rw [hi] at h; cases h
            · rw [h3] at h; cases h
            · exact h
          refine ⟨by rw [hil]; rfl, hR, fun s hs k c hk hc hdc => ?_⟩
          have hk1 := onF1 k hk
          have hk2 := onF2 k c hc hk
          rcases Nat.lt_trichotomy k i with h | h | h
          · rcases ((pc12 k i c b hc hb hk1 hi h).2 hil).2.2.2 with h' | h' | h'
            · rw [h3] at h'; cases h'.1
            · rw [hk2] at h'; cases h'
            · exact h' (hits_of hdc hs)
          · subst h; rw [hk1] at hi; cases hi
          · exact (pc21 i k b c hb hc hi hk1 h).2.1 (hits_of hdc hs)
      · exfalso
        subst h
        rw [ho] at hb; cases hb
        rcases kc i o ho with ⟨h, _⟩ | ⟨h, _⟩ | ⟨_, h, _⟩ | ⟨_, _, _, _, _, _, h⟩
        · rw [hi] at h; cases h
        · rw [hi] at h; cases h
        · rw [hm.2] at h; cases h
        · exact h (hits_of hd ht)
      · exact ((pc2 j i o b ho hb hm.1 hi h).2.2.2 hm.2 (hits_of hd ht)).elim
  -- ld
  · intro j o hL ho
    have hm := and2 hL
    by_cases hex : ∃ (t : Nat) (k : Nat) (b : Oper), t ∈ o.looksAt ops ∧ onF T ops tw k = true ∧ ops[k]? = some b ∧ b.dst = some t
    · obtain ⟨t, k, b, ht, hk, hb, hd⟩ := hex
      have hk1 := onF1 k hk
      have hk2 := onF2 k b hb hk
      have hcp : isCopy o.op = true := by
        rcases Nat.lt_trichotomy k j with h | h | h
        · rcases ((pc12 k j b o hb ho hk1 hm.1 h).2 hm.2).2.2.2 with h' | h' | h'
          · exact h'.2
          · rw [hk2] at h'; cases h'
          · exact (h' (hits_of hd ht)).elim
        · subst h; rw [hk1] at hm; cases hm.1
        · exact ((pc21 j k o b ho hb hm.1 hk1 h).2.1 (hits_of hd ht)).elim
      have hgn : o.guard = none := by
        rcases kc j o ho with ⟨h, _⟩ | ⟨h, _⟩ | ⟨_, h, _⟩ | ⟨_, _, _, _, h2, _⟩
        · rw [hm.1] at h; cases h
        · rw [hm.1] at h; cases h
        · rw [hm.2] at h; cases h
        · exact h2
      right
      cases hop : o.op with
      | move x =>
        cases x with
        | tmp s =>
          have : t = s := by
            unfold Oper.looksAt at ht
            rw [hgn, hop] at ht
            simpa [Op.operands] using ht
          subst this
          exact ⟨t, k, b, .inl rfl, hk, hb, hd⟩
        | _ => rw [hop] at hcp; cases hcp
      | assign x =>
        cases x with
        | tmp s =>
          have : t = s := by
            unfold Oper.looksAt at ht
            rw [hgn, hop] at ht
            simpa [Op.operands] using ht
          subst this
          exact ⟨t, k, b, .inr rfl, hk, hb, hd⟩
        | _ => rw [hop] at hcp; cases hcp
      | _ => rw [hop] at hcp; cases hcp
    · left
      intro t ht k b hk hb hd
      exact hex ⟨t, k, b, ht, hk, hb, hd⟩
  -- ln
  · intro j o i b t hL ho hd hA hb hne ht
    have hm := and2 hL
    have hi : memI i tw = true := nf' hA
    rcases Nat.lt_trichotomy i j with h | h | h
    · exact (pc2 i j b o hb ho hi hm.1 h).2.1 (.inr hm.2) (sameDst_of ht hd)
    · exact hne h
    · exact (pc2 j i o b ho hb hm.1 hi h).2.1 (.inl hm.2) (sameDst_of hd ht)
  -- the second part
  · intro i j a o _ _ hA' hB _ _
    have hA'' : memI j tw = false := hA'
    rw [hA''] at hB
    cases hB
  · intro i hF
    cases hF
  · intro i hL
    cases hL
  · intro i hB
    exact nt' hB
  · intro i j a b t hi hj ha hb hij hd ht
    exact (pc2 i j a b ha hb hi hj hij).1.resolve_right (fun h => h.1 (cw hd ht))
  · intro i j a b t hi hj ha hb hij hd ht
    exact (pc2 i j a b ha hb hi hj hij).1.resolve_right (fun h => h.1 (cr hd ht))
  · intro i j a b hi hj _ _ ha hb hij p q
    exact (pc2 i j a b ha hb hi hj hij).1.resolve_right (fun h => h.2.1 ⟨p, q⟩)
  · intro i j a b hi hj _ _ ha hb hij p q
    exact (pc2 i j a b ha hb hi hj hij).1.imp id (fun h => h.2.2.1 p q)
  · intro i j a b hi hj _ _ ha hb hij p q
    exact (pc2 i j a b ha hb hi hj hij).1.imp id (fun h => h.2.2.2 p q)
  · intro k j a b t hF
    cases hF
  · intro k j a b t hF
    cases hF
  · intro k a hF
    cases hF
  · intro j o hL
    cases hL
  · intro j o i b t hL
    cases hL
  · intro j o i b t hL
    cases hL
  · intro j o i b t hL
    cases hL
  · intro j o hL
    cases hL
  · intro j o i b t hL
    cases hL

/-! ### From the interpreter's run -/
theorem runTrF_spec {tw : List Nat} : ∀ (l : List Oper) (k : Nat) (env : Env) (σ : St) (tr : List (Env × St)), runTrF T call nt ops tw k l env σ = some tr →
    tr.length = l.length + 1 ∧ tr[0]? = some (env, σ) ∧ ∀ i o, l[i]? = some o → ∃ e s e' s', tr[i]? = some (e, s) ∧ tr[i + 1]? = some (e', s') ∧ ((memI (k + i) tw || freshOp T o.op) = true → e' = e ∧ s' = s) ∧ ((memI (k + i) tw || freshOp T o.op) = false → opStep T call nt ops o e s = some (e', s'))
  | [], k, env, σ, tr, h => by simp only [runTrF] at h; cases h; simp
  | o :: r, k, env, σ, tr, h => by
    simp only [runTrF] at h
    cases hf : (memI k tw || freshOp T o.op) with
    | true =>
      rw [hf] at h
      simp only [] at h
      split at h
      case h_2 => cases h
      rename_i l hl
      cases h
      obtain ⟨h1, h2, h3⟩ := runTrF_spec r (k + 1) env σ l hl
      refine ⟨by simp [h1], rfl, fun i oi hi => ?_⟩
      cases i with
      | zero =>
        simp at hi; subst hi
        exact ⟨env, σ, env, σ, rfl, by simpa using h2, fun _ => ⟨rfl, rfl⟩, fun h => by rw [Nat.add_zero, hf] at h; cases h⟩
      | succ i =>
        obtain ⟨e, s, e', s', k1, k2, k3⟩ := h3 i oi (by simpa using hi)
        rw [show k + 1 + i = k + (i + 1) by omega] at k3
        exact ⟨e, s, e', s', by simpa using k1, by simpa using k2, k3⟩
    | false =>
      rw [hf] at h
      simp only [] at h
      split at h
      case h_2 => cases h
      rename_i e1 s1 hs
      split at h
      case h_2 => cases h
      rename_i l hl
      cases h
      obtain ⟨h1, h2, h3⟩ := runTrF_spec r (k + 1) e1 s1 l hl
      refine ⟨by simp [h1], rfl, fun i oi hi => ?_⟩
      cases i with
      | zero =>
        simp at hi; subst hi
        exact ⟨env, σ, e1, s1, rfl, by simpa using h2, fun h => (by rw [Nat.add_zero, hf] at h; cases h), fun _ => hs⟩
      | succ i =>
        obtain ⟨e, s, e', s', k1, k2, k3⟩ := h3 i oi (by simpa using hi)
        rw [show k + 1 + i = k + (i + 1) by omega] at k3
        exact ⟨e, s, e', s', by simpa using k1, by simpa using k2, k3⟩

theorem runTr2_spec {tw : List Nat} : ∀ (l : List Oper) (k : Nat) (env : Env) (σ : St) (r : Env × St), runTr2 T call nt ops tw k l env σ = some r →
    ∃ tr : List (Env × St), tr.length = l.length + 1 ∧ tr[0]? = some (env, σ) ∧ tr[l.length]? = some r ∧ ∀ i o, l[i]? = some o → ∃ e s e' s', tr[i]? = some (e, s) ∧ tr[i + 1]? = some (e', s') ∧ (memI (k + i) tw = false → e' = e ∧ s' = s) ∧ (memI (k + i) tw = true → opStep T call nt ops o e s = some (e', s'))
  | [], k, env, σ, r, h => by simp only [runTr2] at h; cases h; exact ⟨[(env, σ)], rfl, rfl, rfl, by simp⟩
  | o :: l, k, env, σ, r, h => by
    simp only [runTr2] at h
    cases hf : memI k tw with
    | false =>
      rw [hf] at h
      obtain ⟨tr, h1, h2, h3, h4⟩ := runTr2_spec l (k + 1) env σ r h
      refine ⟨(env, σ) :: tr, by simp [h1], rfl, by simpa using h3, fun i oi hi => ?_⟩
      cases i with
      | zero =>
        simp at hi; subst hi
        exact ⟨env, σ, env, σ, rfl, by simpa using h2, fun _ => ⟨rfl, rfl⟩, fun h => (by rw [Nat.add_zero, hf] at h; cases h)⟩
      | succ i =>
        obtain ⟨e, s, e', s', k1, k2, k3⟩ := h4 i oi (by simpa using hi)
        rw [show k + 1 + i = k + (i + 1) by omega] at k3
        exact ⟨e, s, e', s', by simpa using k1, by simpa using k2, k3⟩
    | true =>
      rw [hf] at h
      simp only [] at h
      split at h
      case h_2 => cases h
      rename_i e1 s1 hs
      obtain ⟨tr, h1, h2, h3, h4⟩ := runTr2_spec l (k + 1) e1 s1 r h
      refine ⟨(env, σ) :: tr, by simp [h1], rfl, by simpa using h3, fun i oi hi => ?_⟩
      cases i with
      | zero =>
        simp at hi; subst hi
        exact ⟨env, σ, e1, s1, rfl, by simpa using h2, fun h => (by rw [Nat.add_zero, hf] at h; cases h), fun _ => hs⟩
      | succ i =>
        obtain ⟨e, s, e', s', k1, k2, k3⟩ := h4 i oi (by simpa using hi)
        rw [show k + 1 + i = k + (i + 1) by omega] at k3
        exact ⟨e, s, e', s', by simpa using k1, by simpa using k2, k3⟩

theorem runOps_slot {s : Nat} : ∀ (l : List Oper) (e : Env) (σ : St) (r : Env × St), runOps T call nt ops l e σ = some r → (∀ o ∈ l, o.dst ≠ some s) → lk r.1 s = lk e s
  | [], e, σ, r, h, _ => by simp only [runOps] at h; cases h; rfl
  | o :: l, e, σ, r, h, hd => by
    simp only [runOps] at h
    split at h
    case h_2 => cases h
    rename_i e1 s1 hs
    obtain ⟨v, hv⟩ := opStep_put hs
    rw [runOps_slot l e1 s1 r h (fun o' ho' => hd o' (by simp [ho']))]
    exact putE_ne hv (hd o (by simp))

/-- What the run of operations that make new rows shows of each. -/
theorem fresh_all {E1 : Env} : ∀ (l : List Oper) (e : Env) (σ : St) (r : Env × St), runOps T call nt ops l e σ = some r → (∀ o ∈ l, freshOp T o.op = true ∧ o.guard = none ∧ o.dst ≠ none) →
    (∀ o ∈ l, ∀ t, t ∈ o.looksAt ops → lk e t = lk E1 t) → l.Pairwise (fun a b => ∀ t, a.dst = some t → t ∉ b.looksAt ops) →
    ∀ o ∈ l, ∃ (g : Nat → AV) (x : Blk) (t : Nat), NewV g ∧ scals x.cells = true ∧ o.dst = some t ∧ t < nt ∧ ∀ τ, opA T E1 τ o.op = some (.val (g τ.n) (τ.push x))
  | [], _, _, _, _, _, _, _, o, ho => by simp at ho
  | o :: r, e, σ, res, h, hf, hl, hp, o', ho' => by
    obtain ⟨hfo, hg, hd⟩ := hf o (by simp)
    simp only [runOps] at h
    split at h
    case h_2 => cases h
    rename_i e1 s1 hst
    have hst0 := hst
    unfold opStep at hst
    have hwt : wantedA ops o e = some true := by unfold wantedA; rw [hg]
    rw [hwt] at hst
    simp only [] at hst
    split at hst
    · cases hst
    · rename_i v s2 hop
      obtain ⟨g, x, h1, h2, h3, h4⟩ := fresh_op hfo hop
      cases hdd : o.dst with
      | none => exact (hd hdd).elim
      | some t =>
        unfold putE at hst
        rw [hdd] at hst
        simp only [] at hst
        split at hst
        case h_2 => cases hst
        rename_i e2 he2
        split at he2
        case isFalse => cases he2
        rename_i htn
        cases he2
        cases hst
        rcases List.mem_cons.1 ho' with rfl | ho'
        · refine ⟨g, x, t, h1, h2, hdd, htn, fun τ => ?_⟩
          rw [← h4 τ]
          refine (opA_congr fun y hy => ?_).symm
          cases y with
          | tmp s => exact hl o' (by simp) s (by unfold Oper.looksAt; exact List.mem_append_left _ (List.mem_filterMap.2 ⟨.tmp s, by simpa using hy, rfl⟩))
          | _ => rfl
        · have hpc := List.pairwise_cons.1 hp
          refine fresh_all r _ _ res h (fun a ha => hf a (by simp [ha])) (fun a ha t' ht' => ?_) hpc.2 o' ho'
          have hne : ¬ t = t' := fun e => by subst e; exact hpc.1 a ha t hdd ht'
          rw [lk_cons, if_neg hne]
          exact hl a (by simp [ha]) t' ht'
    · rename_i f args hop
      obtain ⟨_, _, _, _, h3, _⟩ := fresh_op hfo hop
      cases h3


theorem selF_mem {tw : List Nat} : ∀ (l : List Oper) (k : Nat) (o : Oper), o ∈ selF T tw k l → ∃ i, l[i]? = some o ∧ memI (k + i) tw = false ∧ freshOp T o.op = true
  | [], _, _, h => by simp [selF] at h
  | x :: r, k, o, h => by
    simp only [selF] at h
    have up : o ∈ selF T tw (k + 1) r → ∃ i, (x :: r)[i]? = some o ∧ memI (k + i) tw = false ∧ freshOp T o.op = true := fun h => by
      obtain ⟨i, h1, h2, h3⟩ := selF_mem r (k + 1) o h
      exact ⟨i + 1, by simpa using h1, by rw [show k + (i + 1) = k + 1 + i by omega]; exact h2, h3⟩
    cases hc : (!memI k tw && freshOp T x.op) with
    | false => rw [hc] at h; exact up h
    | true =>
      rw [hc] at h
      rcases List.mem_cons.1 h with rfl | h
      · simp only [Bool.and_eq_true, Bool.not_eq_true'] at hc
        exact ⟨0, rfl, hc.1, hc.2⟩
      · exact up h
theorem selF_of {tw : List Nat} : ∀ (l : List Oper) (k i : Nat) (o : Oper), l[i]? = some o → memI (k + i) tw = false → freshOp T o.op = true → o ∈ selF T tw k l
  | [], _, _, _, h, _, _ => by simp at h
  | x :: r, k, 0, o, h, h1, h2 => by
    simp at h; subst h
    simp only [selF]
    rw [Nat.add_zero] at h1
    rw [h1, h2]
    simp
  | x :: r, k, i + 1, o, h, h1, h2 => by
    have := selF_of r (k + 1) i o (by simpa using h) (by rw [show k + 1 + i = k + (i + 1) by omega]; exact h1) h2
    simp only [selF]
    split
    · exact List.mem_cons_of_mem _ this
    · exact this

theorem pends_of {tw : List Nat} {B L : Nat → Bool} {E1 : Env} {a : Act} {w0 : World} {Z1 : Fz} {φ1 π : Nat → Pl} (hO : OrdR T ops ps R (fun i => !memI i tw) B (onF T ops tw) L)
    (hpend : ∀ k o, onF T ops tw k = true → ops[k]? = some o → PendAt T E1 o nt a w0 w Z1 φ1 σ (π k))
    (hinj : ∀ k k' o o', onF T ops tw k = true → ops[k]? = some o → onF T ops tw k' = true → ops[k']? = some o' → k ≠ k' → (π k).blk ≠ (π k').blk) :
    ∀ (l : List Oper) (k0 : Nat), (∀ i o, l[i]? = some o → ops[k0 + i]? = some o) → ∃ qs, Pends T ops E1 nt a w0 w Z1 φ1 σ (selF T tw k0 l) qs ∧ ∀ q ∈ qs, ∃ k o, k0 ≤ k ∧ ops[k]? = some o ∧ onF T ops tw k = true ∧ q = π k
  | [], _, _ => ⟨[], trivial, by simp⟩
  | o :: r, k0, hat => by
    obtain ⟨qs, h1, h2⟩ := pends_of hO hpend hinj r (k0 + 1) (fun i o' h => by have := hat (i + 1) o' (by simpa using h); rwa [show k0 + 1 + i = k0 + (i + 1) by omega])
    have ho := hat 0 o rfl
    rw [Nat.add_zero] at ho
    have hFo : onF T ops tw k0 = (!memI k0 tw && freshOp T o.op) := by unfold onF; rw [ho]
    simp only [selF]
    cases hf : (!memI k0 tw && freshOp T o.op) with
    | false => exact ⟨qs, h1, fun q hq => by obtain ⟨k, o', k1, k2⟩ := h2 q hq; exact ⟨k, o', by omega, k2⟩⟩
    | true =>
      rw [hf] at hFo
      refine ⟨π k0 :: qs, ⟨hpend k0 o hFo ho, (hO.fr k0 o hFo ho).2.1, fun q hq => ?_, fun o' ho' t ht => ?_, h1⟩, fun q hq => ?_⟩
      · obtain ⟨k, o', k1, k3, k4, rfl⟩ := h2 q hq
        exact hinj k k0 o' o k4 k3 hFo ho (by omega)
      · obtain ⟨i, hi, hm, _⟩ := selF_mem r (k0 + 1) o' ho'
        have hj := hat (i + 1) o' (by simpa using hi)
        rw [show k0 + (i + 1) = k0 + 1 + i by omega] at hj
        obtain ⟨g1, g2⟩ := hO.iso k0 (k0 + 1 + i) o o' t hFo (by simp [hm]) ho hj ht
        exact ⟨g1, g2 (by omega)⟩
      · rcases List.mem_cons.1 hq with rfl | hq
        · exact ⟨k0, o, Nat.le_refl _, ho, hFo, rfl⟩
        · obtain ⟨k, o', k1, k2⟩ := h2 q hq
          exact ⟨k, o', by omega, k2⟩

theorem selF_pw {tw : List Nat} {B L : Nat → Bool} (hO : OrdR T ops ps R (fun i => !memI i tw) B (onF T ops tw) L) : ∀ (l : List Oper) (k0 : Nat), (∀ i o, l[i]? = some o → ops[k0 + i]? = some o) → (selF T tw k0 l).Pairwise (fun a b => ∀ t, a.dst = some t → t ∉ b.looksAt ops)
  | [], _, _ => List.Pairwise.nil
  | o :: r, k0, hat => by
    have ih := selF_pw hO r (k0 + 1) (fun i o' h => by have := hat (i + 1) o' (by simpa using h); rwa [show k0 + 1 + i = k0 + (i + 1) by omega])
    have ho := hat 0 o rfl
    rw [Nat.add_zero] at ho
    simp only [selF]
    cases hf : (!memI k0 tw && freshOp T o.op) with
    | false => exact ih
    | true =>
      have hFo : onF T ops tw k0 = true := by unfold onF; rw [ho]; exact hf
      refine List.pairwise_cons.2 ⟨fun o' ho' t ht => ?_, ih⟩
      obtain ⟨i, hi, hm, _⟩ := selF_mem r (k0 + 1) o' ho'
      have hj := hat (i + 1) o' (by simpa using hi)
      rw [show k0 + (i + 1) = k0 + 1 + i by omega] at hj
      exact (hO.iso k0 (k0 + 1 + i) o o' t hFo (by simp [hm]) ho hj ht).1

set_option maxHeartbeats 4000000 in
theorem regOK_fence (hm : P.follows .mixedOrders = true) (hT : TyT P T) {fi : FI} {id : Nat} {ops : Array Oper} {q : Nat × Nat} {qs : List (Nat × Nat)} (hq : q.1 = 1000000) (hdyn : pairsOf fi.dyn id = q :: qs) (hchk : fenceOK T ops (twoOf qs) (latOf qs) (prsOf qs) = true) : RegOK P T fi id ops true := by
  intro call hC env σ env' σ' Z φ a w h hE hn hI
  obtain ⟨R, hO, hO2⟩ := fence_spec hchk
  unfold regA at h
  split at h
  case h_2 => cases h
  rename_i e1 σ1 h1
  cases h
  simp only [] at h1
  rw [hdyn] at h1
  simp only [regOps, nif_eq, if_pos hq] at h1
  generalize twoOf qs = tw at *
  generalize latOf qs = lt at *
  generalize prsOf qs = ps at *
  unfold regF at h1
  split at h1
  case h_2 => cases h1
  rename_i tr k1
  split at h1
  case isFalse => cases h1
  rename_i k3
  split at h1
  case h_2 => cases h1
  rename_i ea σa k2
  split at h1
  case h_2 => cases h1
  rename_i eb σb kf
  obtain ⟨s1, s2, s3⟩ := runTrF_spec _ _ _ _ _ k1
  obtain ⟨tr2, t1, t2, t4, t3⟩ := runTr2_spec _ _ _ _ _ h1
  have hsz : ops.toList.length = ops.size := Array.length_toList
  rw [hsz] at s1 t1 t4
  have hlist : ∀ i o, ops[i]? = some o → ops.toList[i]? = some o := fun i o ho => (by rw [Array.getElem?_toList]; exact ho)
  have hlist' : ∀ i o, ops.toList[i]? = some o → ops[0 + i]? = some o := fun i o ho => (by rw [Nat.zero_add, ← Array.getElem?_toList]; exact ho)
  have hlt : ∀ i o, ops[i]? = some o → i < ops.size := fun i o ho => (Array.getElem?_eq_some_iff.1 ho).1
  let E : Nat → Env := fun i => ((tr[i]?).getD (env, σ)).1
  let H : Nat → St := fun i => ((tr[i]?).getD (env, σ)).2
  have hEH : ∀ i e s', tr[i]? = some (e, s') → E i = e ∧ H i = s' := fun i e s' h => by simp [E, H, h]
  let E2 : Nat → Env := fun i => ((tr2[i]?).getD (env, σ)).1
  let H2 : Nat → St := fun i => ((tr2[i]?).getD (env, σ)).2
  have hEH2 : ∀ i e s', tr2[i]? = some (e, s') → E2 i = e ∧ H2 i = s' := fun i e s' h => by simp [E2, H2, h]
  have h0 := hEH 0 _ _ s2
  have hEs : E ops.size = ea ∧ H ops.size = σa := by
    rw [lastOf_eq, s1] at k2
    exact hEH _ _ _ (by simpa using k2)
  have h20 : E2 0 = eb ∧ H2 0 = σb := hEH2 0 _ _ t2
  have h2l : E2 ops.size = e1 ∧ H2 ops.size = σ1 := hEH2 _ _ _ t4
  have hFF : ∀ i o, ops[i]? = some o → onF T ops tw i = (!memI i tw && freshOp T o.op) := by
    intro i o ho
    unfold onF
    rw [ho]
  have hmemF : ∀ o, o ∈ selF T tw 0 ops.toList → ∃ k, ops[k]? = some o ∧ onF T ops tw k = true := by
    intro o ho
    obtain ⟨k, hk, hm1, hf⟩ := selF_mem _ _ _ ho
    have hko := hlist' k o hk
    rw [Nat.zero_add] at hko hm1
    exact ⟨k, hko, by rw [hFF k o hko, hm1, hf]; rfl⟩
  have hFmem : ∀ k o, ops[k]? = some o → onF T ops tw k = true → o ∈ selF T tw 0 ops.toList := by
    intro k o hko hF
    rw [hFF k o hko] at hF
    simp only [Bool.and_eq_true, Bool.not_eq_true'] at hF
    exact selF_of ops.toList 0 k o (hlist k o hko) (by rw [Nat.zero_add]; exact hF.1) hF.2
  have hall := fresh_all (E1 := ea) _ _ _ _ kf (fun o ho => by
      obtain ⟨k, hko, hF⟩ := hmemF o ho
      exact hO.fr k o hF hko) (fun _ _ _ _ => rfl) (selF_pw hO ops.toList 0 hlist')
  have hW2 : WayR T call fi.nt ops [] E2 H2 (E2 ops.size) (fun i => memI i tw) (fun _ => false) (fun _ => false) := by
    refine ⟨fun i o hA _ ho => ?_, fun i o hA ho => ?_, fun i j o hij => (by simp at hij), fun k o hF => (by cases hF), fun k o hF => (by cases hF), fun j o s hL => (by cases hL)⟩
    · obtain ⟨e, s', e', s'', q1, q2, _, q4⟩ := t3 i o (hlist i o ho)
      rw [Nat.zero_add] at q4
      rw [(hEH2 _ _ _ q1).1, (hEH2 _ _ _ q1).2, (hEH2 _ _ _ q2).1, (hEH2 _ _ _ q2).2]
      exact q4 hA
    · obtain ⟨e, s', e', s'', q1, q2, q3, _⟩ := t3 i o (hlist i o ho)
      rw [Nat.zero_add] at q3
      rw [(hEH2 _ _ _ q1).1, (hEH2 _ _ _ q1).2, (hEH2 _ _ _ q2).1, (hEH2 _ _ _ q2).2]
      exact q3 (by rcases hA with h | h; · exact h
                   · cases h)
  have hper : ∀ j o s, (memI j tw && memI j lt) = true → ops[j]? = some o → s ∈ o.looksAt ops → lk (E2 ops.size) s = lk (E2 j) s := by
    intro j o s hL ho hs
    have hj := hlt j o ho
    have := hW2.slot (p := j) (t := s) (ops.size - j) (by omega) (fun i b hb hA _ h1 h2 hd => by
      rcases hO.lc j o i b s hL ho hs hb hd with h | h | h
      · have h1 := h.1
        have hA' : memI i tw = true := hA
        simp only [hA'] at h1
        cases h1
      · cases h
      · have := hO.rlt i j h.2.1; omega)
    rwa [show j + (ops.size - j) = ops.size by omega] at this
  -- an operation of the second part that may run early
  have hlate : ∀ j o, (memI j tw && memI j lt) = true → ops[j]? = some o → ∃ (t : Nat) (v : AV), o.dst = some t ∧ t < fi.nt ∧ (∀ τ, opA T (E2 j) τ o.op = some (.val v τ)) ∧ lk (E2 (j + 1)) t = some v ∧ (∀ s, s ∈ o.looksAt ops → (∀ i b, (memI i tw && memI i lt) = true → ops[i]? = some b → b.dst ≠ some s) → lk (E2 j) s = lk eb s) ∧ lk (E2 ops.size) t = some v := by
    intro j o hL ho
    have hL' := hL
    simp only [Bool.and_eq_true] at hL'
    obtain ⟨c1, c2, c3⟩ := hO.la j o hL ho
    have hst := hW2.step j o hL'.1 rfl ho
    unfold opStep at hst
    have hwt : wantedA ops o (E2 j) = some true := by unfold wantedA; rw [c2]
    rw [hwt] at hst
    simp only [] at hst
    have hlk : ∀ s, s ∈ o.looksAt ops → (∀ i b, (memI i tw && memI i lt) = true → ops[i]? = some b → b.dst ≠ some s) → lk (E2 j) s = lk eb s := fun s hs hno => by
      have := hW2.slot (p := 0) (t := s) j (by have := hlt j o ho; omega) (fun i b hb hA _ _ _ hd => by
        rcases hO.lc j o i b s hL ho hs hb hd with h | h | h
        · have h1 := h.1
          have hA' : memI i tw = true := hA
          simp only [hA'] at h1
          cases h1
        · cases h
        · exact hno i b h.1 hb hd)
      rw [Nat.zero_add, h20.1] at this
      exact this
    have hfin : ∀ t v, o.dst = some t → lk (E2 (j + 1)) t = some v → lk (E2 ops.size) t = some v := fun t v hd hv => by
      have hj := hlt j o ho
      have := hW2.slot (p := j + 1) (t := t) (ops.size - (j + 1)) (by omega) (fun i b hb hA _ h1 h2 hdb => by
        have hA' : memI i tw = true := hA
        exact hO.ln j o i b t hL ho hd (by simp [hA']) hb (by omega) hdb)
      rw [show j + 1 + (ops.size - (j + 1)) = ops.size by omega] at this
      rw [this]; exact hv
    split at hst
    · cases hst
    · rename_i v s2 hop
      obtain ⟨v', hv, hall'⟩ := opA_pure c1 hop
      cases hv
      cases hdd : o.dst with
      | none => exact (c3 hdd).elim
      | some t =>
        unfold putE at hst
        rw [hdd] at hst
        simp only [] at hst
        split at hst
        case h_2 => cases hst
        rename_i e2 he2
        split at he2
        case isFalse => cases he2
        rename_i htn
        cases he2
        simp only [Option.some.injEq, Prod.mk.injEq] at hst
        have hj1 : lk (E2 (j + 1)) t = some v := by rw [← hst.1, lk_cons, if_pos rfl]
        exact ⟨t, v, rfl, htn, hall', hj1, hlk, hfin t v hdd hj1⟩
    · rename_i f args hop
      obtain ⟨v', hv, _⟩ := opA_pure c1 hop
      cases hv
  have hbase : ∀ s, (∀ k b, onF T ops tw k = true → ops[k]? = some b → b.dst ≠ some s) → lk eb s = lk ea s := fun s hs => runOps_slot _ _ _ _ kf (fun o ho => by
    obtain ⟨k, hko, hF⟩ := hmemF o ho
    exact hs k o hF hko)
  have hcongr : ∀ j o, (memI j tw && memI j lt) = true → ops[j]? = some o → ∀ τ, opA T (E2 ops.size) τ o.op = opA T (E2 j) τ o.op := by
    intro j o hL ho τ
    refine opA_congr fun y hy => ?_
    cases y with
    | tmp s =>
      have hs : s ∈ o.looksAt ops := by unfold Oper.looksAt; exact List.mem_append_left _ (List.mem_filterMap.2 ⟨.tmp s, by simpa using hy, rfl⟩)
      exact hper j o s hL ho hs
    | _ => rfl
  have hW : WayR T call fi.nt ops ps E H (E2 ops.size) (fun i => !memI i tw) (onF T ops tw) (fun i => memI i tw && memI i lt) := by
    refine ⟨fun i o hA hF ho => ?_, fun i o hA ho => ?_, fun i j o hij ho hw => ?_, fun k o hF ho => ?_, fun j o hL ho => ?_, fun j o s hL ho hs hno hnf => ?_⟩
    · rw [hFF i o ho] at hF
      have hA' : memI i tw = false := by cases hx : memI i tw with | false => rfl | true => rw [hx] at hA; cases hA
      rw [hA'] at hF
      obtain ⟨e, s', e', s'', q1, q2, _, q4⟩ := s3 i o (hlist i o ho)
      rw [Nat.zero_add] at q4
      rw [(hEH _ _ _ q1).1, (hEH _ _ _ q1).2, (hEH _ _ _ q2).1, (hEH _ _ _ q2).2]
      exact q4 (by rw [hA']; simpa using hF)
    · obtain ⟨e, s', e', s'', q1, q2, q3, _⟩ := s3 i o (hlist i o ho)
      rw [Nat.zero_add] at q3
      rw [(hEH _ _ _ q1).1, (hEH _ _ _ q1).2, (hEH _ _ _ q2).1, (hEH _ _ _ q2).2]
      refine q3 ?_
      rcases hA with h | h
      · have h' : memI i tw = true := by cases hx : memI i tw with | true => rfl | false => rw [hx] at h; cases h
        rw [h']; rfl
      · rw [hFF i o ho] at h
        simp only [Bool.and_eq_true] at h
        rw [h.2]; simp
    · have hp := pairsOk_spec k3 i j hij
      unfold pairOk at hp
      rw [ho] at hp
      split at hp
      case h_2 => cases hp
      rename_i o' e s' e' s'' q1 q2 q3
      cases q1
      rw [lstAt_eq] at q2 q3
      obtain ⟨r1, r2⟩ := hEH _ _ _ q2
      have hb : (bif Nat.blt j i then j else j + 1) = if j < i then j else j + 1 := by
        by_cases hji : j < i
        · have : Nat.blt j i = true := by unfold Nat.blt; rw [Nat.ble_eq]; exact hji
          rw [this, if_pos hji]; rfl
        · have : Nat.blt j i = false := by
            cases hx : Nat.blt j i with
            | false => rfl
            | true => exact (hji (Nat.le_of_ble_eq_true hx)).elim
          rw [this, if_neg hji]; rfl
      rw [hb] at q3
      obtain ⟨_, r4⟩ := hEH _ _ _ q3
      rw [← r1, hw] at hp
      simp only [] at hp
      rw [← r2, ← r4] at hp
      unfold sameVal at hp
      split at hp
      · rename_i v _ u _ z1 z2
        rw [eqv_sound _ _ hp] at z1
        exact ⟨_, _, _, z1, z2⟩
      · cases hp
    · rw [hEs.1]
      exact hall o (hFmem k o ho hF)
    · obtain ⟨t, v, g1, g2, g3, _, _, g6⟩ := hlate j o hL ho
      refine ⟨t, g1, g2, fun hnf => ⟨v, fun τ => ?_, g6⟩⟩
      rw [hcongr j o hL ho τ]
      exact g3 τ
    · obtain ⟨_, _, _, _, _, _, g5, _⟩ := hlate j o hL ho
      rw [hper j o s hL ho hs, g5 s hs hno, hbase s hnf, hEs.1]
  have hff : ∀ j, (Array.replicate ops.size false).getD j false = false := by
    intro j
    simp only [Array.getD_eq_getD_getElem?, Array.getElem?_replicate]
    split <;> rfl
  refine wp_region_any hm ?_
  refine draw_ph (Z := Z) (φ := φ) (w0 := w.drew) (a0 := a) hT hC hO hW hn ?_ ops.size _ a _ Z φ 0 (fun _ => ⟨0, 0, 0⟩) ⟨by simp, ?_, fun i o _ hB => (by cases hB), ?_, Nat.zero_le _, ?_, ?_, ?_, ?_, ?_, ?_, ?_, rfl, rfl⟩ (by simp)
  · -- the first part is done
    intro fuel listed a1 w1 Z1 φ1 π D hdone hcount
    have hext := D.ext
    rw [h0.2, hEs.2] at hext
    have hinv := D.inv
    rw [hEs.2] at hinv
    have hAF : ∀ k, onF T ops tw k = true → (!memI k tw) = true := fun k h => hO.fa k h
    obtain ⟨qs', hq1, _⟩ := pends_of hO (nt := fi.nt) (E1 := ea) (a := a1) (w0 := w.drew) (w := w1) (Z1 := Z1) (φ1 := φ1) (σ := σa) (π := π)
      (fun k o hF ho => by have := D.pend k o hF ho (hdone k o ho (hAF k hF)); rwa [hEs.1, hEs.2] at this)
      (fun k k' o o' hF ho hF' ho' hne => D.inj k k' o o' hF ho (hdone k o ho (hAF k hF)) hF' ho' (hdone k' o' ho' (hAF k' hF')) hne)
      ops.toList 0 hlist'
    obtain ⟨φ2, hI2, hx2, hE2, hφ2, hn2⟩ := mat (Z := Z) (φ := φ) (σ0 := σ) (X := fun t => ∃ j o, (memI j tw && memI j lt) = true ∧ ops[j]? = some o ∧ listed.getD j false = true ∧ o.dst = some t) _ qs' ea σa φ1 eb σb kf hq1 (fun _ _ _ _ => rfl) hinv hext (fun t v hX hnd hv => by
      have := D.slots t ops.size (Nat.le_refl _) (fun k o hF ho hd => hnd o (hFmem k o ho hF) hd) (fun j o hL ho hl hd => hX ⟨j, o, hL, ho, hl, hd⟩)
        (fun i o hA ho hd => ⟨fun _ => hlt i o ho, fun _ => hdone i o ho hA⟩) v (by rw [hEs.1]; exact hv)
      rwa [hEs.2] at this)
    have hone : ∀ i o, ops[i]? = some o → listed.getD i false = true → memI i tw = true → (memI i tw && memI i lt) = true := fun i o ho hl hm => by
      cases hx : (memI i tw && memI i lt) with
      | true => rfl
      | false => exact (D.hi i o ho (by simp [hm]) rfl hx hl).elim
    refine draw_ph (Z := Z1) (φ := φ2) (w0 := w1) (a0 := a) (E := E2) (H := H2) hT hC hO2 hW2 hn ?_ fuel listed a1 w1 Z1 φ2 0 (fun _ => ⟨0, 0, 0⟩) ⟨D.size, D.closed, fun i o ho hB => hdone i o ho hB, fun i o ho hA hB => ?_, Nat.zero_le _, ?_, by rw [h20.2]; exact hI2, Ext.refl _ _ _ _, ?_, fun k o hF => (by cases hF), fun k k' o o' hF => (by cases hF), fun j o hL => (by cases hL), D.defers, D.tmps⟩ hcount
    · -- all is done
      intro fuel listed a2 w2 Z2 φ3 π2 D2 hdone2 hcount2
      have hall2 : ∀ i o, ops[i]? = some o → listed.getD i false = true := fun i o ho => by
        cases hm : memI i tw with
        | true => exact hdone2 i o ho hm
        | false => exact D2.lo i o ho (by simp [hm])
      have hzero : listed.toList.count false = 0 := by
        rw [List.count_eq_zero]
        intro hmem
        obtain ⟨i, hi, he⟩ := List.getElem_of_mem hmem
        have hi' : i < ops.size := by rw [← D2.size]; simpa using hi
        have := hall2 i ops[i] (by simp [hi'])
        have hls : i < listed.size := by simpa using hi
        simp [hls] at this he
        rw [this] at he; cases he
      have hready : Region.ready .any ops listed = [] := by
        cases hx : Region.ready .any ops listed with
        | nil => rfl
        | cons i r =>
          have hi : i ∈ Region.ready .any ops listed := by rw [hx]; simp
          obtain ⟨g1, o, ho, _⟩ := mem_ready.1 hi
          have hi' := (Array.getElem?_eq_some_iff.1 ho).1
          have := hall2 i o ho
          have hls : i < listed.size := by rw [D2.size]; exact hi'
          simp [hls] at this g1
          rw [this] at g1; cases g1
      have hQ : RegQ Z φ σ w a e1 σ1 .normal a2 w2 := by
        refine ⟨rfl, Z2, φ3, fun t v hv => ?_, D2.defers, D2.tmps, ?_, ?_⟩
        · have := D2.slots t ops.size (Nat.le_refl _) (fun k o hF => (by cases hF)) (fun k o hL => (by cases hL)) (fun i o _ ho _ => ⟨fun _ => hlt i o ho, fun _ => hall2 i o ho⟩) v (by rw [h2l.1]; exact hv)
          rwa [h2l.2] at this
        · have := D2.inv
          rwa [h2l.2] at this
        · have := D2.ext
          rw [h20.2, h2l.2] at this
          exact Ext.drew.trans (hx2.trans this)
      have hf0 : fuel = 0 := by omega
      subst hf0
      exact ⟨hready, RegQ.restrict _ _ _ _ _ hQ⟩
    · intro _
      have hA' : memI i tw = false := hA
      rw [hA'] at hB
      cases hB
    · intro i o ho hA _ hc
      constructor
      · intro hl
        have := (hO.la i o (hone i o ho hl hA) ho).1
        omega
      · intro hl; omega
    · intro t m hm1 _ _ hcut v hv
      rw [h20.2]
      by_cases hex : ∃ j o, (memI j tw && memI j lt) = true ∧ ops[j]? = some o ∧ listed.getD j false = true ∧ o.dst = some t
      · obtain ⟨j, o, hL, ho, hl, hd⟩ := hex
        have hL' : memI j tw = true := by simp only [Bool.and_eq_true] at hL; exact hL.1
        have hjm : j < m := (hcut j o hL' ho hd).1 hl
        obtain ⟨t', v', g1, g2, g3, g4, g5, _⟩ := hlate j o hL ho
        rw [hd] at g1
        cases g1
        have hv' : v = v' := by
          have := hW2.slot (p := j + 1) (t := t) (m - (j + 1)) (by omega) (fun i b hb hA _ h1 h2 hdb => by
            have hli := (hcut i b hA hb hdb).2 (by omega)
            exact hO.lb2 j o i b t hL ho hd (hone i b hb hli hA) hb (by omega) hdb)
          rw [show j + 1 + (m - (j + 1)) = m by omega, g4] at this
          rw [this] at hv
          exact (Option.some.inj hv).symm
        subst hv'
        obtain ⟨t', u, q1, q2, q3⟩ := D.late j o hL ho hl
        rw [hd] at q1
        cases q1
        rw [hEs.2] at q3
        rcases q3 with ⟨v', z1, z2, z3, z4⟩ | ⟨s, k, b, z1, z2, z3, z4, z5⟩
        · have he : v' = v := by
            have h3 := z1 σa
            rw [hcongr j o hL ho σa, g3 σa] at h3
            simp only [Option.some.injEq, Nx.val.injEq] at h3
            exact h3.1.symm
          subst he
          exact ⟨u, q2, VR_mono hφ2 (fun _ _ h => h) v' u z4 z3, Sc_mono hn2 v' z4⟩
        · have hsl : s ∈ o.looksAt ops := by
            unfold Oper.looksAt
            refine List.mem_append_left _ (List.mem_filterMap.2 ⟨.tmp s, ?_, rfl⟩)
            rcases z1 with h | h <;> rw [h] <;> simp [Op.operands]
          have hls : lk eb s = some v := by
            rw [← g5 s hsl (fun i' b' x1 x2 x4 => (hO.lb i' b' k b s x1 x2 x4 (hAF k z2) z3).2 z4)]
            have h3 := g3 σa
            rcases z1 with h | h <;> rw [h] at h3 <;> simp only [opA, evo, valS] at h3
            · cases hx : lk (E2 j) s with
              | none => rw [hx] at h3; cases h3
              | some y => rw [hx] at h3; simp at h3; rw [h3]
            · cases hx : lk (E2 j) s with
              | none => rw [hx] at h3; cases h3
              | some y => rw [hx] at h3; simp at h3; rw [h3]
          obtain ⟨u0, y1, y2, y3⟩ := hE2 s v (fun ⟨j', o', x1, x2, x3, x4⟩ => (hO.lb j' o' k b s x1 x2 x4 (hAF k z2) z3).2 z4) hls
          rw [z5] at y1
          cases y1
          exact ⟨u, q2, y2, y3⟩
      · have := hW2.slot (p := 0) (t := t) m (by omega) (fun i b hb hA _ _ h2 hdb => by
          have hli := (hcut i b hA hb hdb).2 (by omega)
          exact hex ⟨i, b, hone i b hb hli hA, hb, hli, hdb⟩)
        rw [Nat.zero_add, h20.1] at this
        rw [this] at hv
        exact hE2 t v hex hv
  · intro j o hj hs'
    rw [hff] at hs'; cases hs'
  · intro i o ho hA hB hL
    rw [hff]; simp
  · intro i o hi _ _ _
    rw [hff]; simp
  · rw [h0.2]; exact hI.drew
  · rw [h0.2]; exact Ext.refl _ _ _ _
  · intro t m hm' hfd hld hcut v hv
    rw [h0.2]
    have hnot : ∀ j o, ops[j]? = some o → (!memI j tw) = true → onF T ops tw j = false → 0 ≤ j → j < 0 + m → o.dst ≠ some t := by
      intro j o hj hA _ _ h2 hdj
      have := (hcut j o hA hj hdj).2 (by omega)
      rw [hff] at this; cases this
    have := hW.slot (p := 0) (t := t) m (by omega) hnot
    rw [Nat.zero_add] at this
    rw [this, h0.1] at hv
    exact hE t v hv
  · intro k o _ _ hl
    rw [hff] at hl; cases hl
  · intro k k' o o' _ _ hl
    rw [hff] at hl; cases hl
  · intro j o _ _ hl
    rw [hff] at hl; cases hl
end Go.Abs
