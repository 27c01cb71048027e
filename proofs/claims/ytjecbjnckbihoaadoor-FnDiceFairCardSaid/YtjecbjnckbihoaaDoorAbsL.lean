/- Freezing and handing over memory at a call: for the interpreter's soundness. Nothing is claimed here; no condition. -/
import Derived.Test.YtjecbjnckbihoaaDoorAbsK
namespace Go.Abs
open Go

variable {P : Program} {T : Tab} {Z Zc : Fz} {φ : Nat → Pl} {σ σ' : St} {w w' : World}

def Frz (σ : St) (φ : Nat → Pl) (w : World) (Zc : Fz) (rows : List Nat) : Prop := ∀ b, b ∈ rows → ∀ y, σ.get b = some y → Zc (φ b).blk = w.heap[(φ b).blk]?

theorem frzs_ok {d : Nat} {n : Nat} (ih : ∀ v v' u, frzV σ d v = some v' → VR Z φ v u → Sc n v → Frz σ φ w Zc (rowsV σ d v) → (∀ ψ, VR Zc ψ v' u) ∧ Sc 0 v') :
    ∀ (xs ys : List AV) (us : List Value), mapO (frzV σ d) xs = some ys → VRs Z φ xs us → Scs n xs → Frz σ φ w Zc (xs.flatMap (rowsV σ d)) → (∀ ψ, VRs Zc ψ ys us) ∧ Scs 0 ys ∧ ys.length = xs.length
  | [], ys, us, h, _, _, _ => by simp [mapO] at h; subst h; exact ⟨fun _ => trivial, trivial, rfl⟩
  | x :: r, ys, [], h, hv, _, _ => hv.elim
  | x :: r, ys, u :: us, h, hv, hs, hf => by
    simp only [mapO] at h
    split at h
    case h_2 => cases h
    rename_i a b h1 h2
    cases h
    simp only [List.flatMap_cons] at hf
    obtain ⟨a1, a2⟩ := ih x a u h1 hv.1 hs.1 (fun c hc => hf c (List.mem_append_left _ hc))
    obtain ⟨b1, b2, b3⟩ := frzs_ok ih r b us h2 hv.2 hs.2 (fun c hc => hf c (List.mem_append_right _ hc))
    exact ⟨fun ψ => ⟨a1 ψ, b1 ψ⟩, ⟨a2, b2⟩, by simp [b3]⟩

theorem frzV_ok (hI : Inv Z φ σ w) (hZ : ∀ B o, Z B = some o → Zc B = some o) : ∀ (d : Nat) (v v' : AV) (u : Value), frzV σ d v = some v' → VR Z φ v u → Sc σ.n v → Frz σ φ w Zc (rowsV σ d v) → (∀ ψ, VR Zc ψ v' u) ∧ Sc 0 v'
  | 0, v, v', u, h, _, _, _ => by simp [frzV] at h
  | d + 1, v, v', u, h, hv, hs, hf => by
    have ih := frzV_ok hI hZ d
    simp only [frzV] at h
    split at h
    · rename_i cs
      split at h
      case h_2 => cases h
      rename_i l hl
      cases h
      simp only [VR] at hv
      obtain ⟨x, rfl, hlen, hvs⟩ := hv
      obtain ⟨a1, a2, a3⟩ := frzs_ok ih cs l x hl hvs hs hf
      exact ⟨fun ψ => ⟨x, rfl, by rw [hlen, a3], a1 ψ⟩, a2⟩
    · rename_i cs
      split at h
      case h_2 => cases h
      rename_i l hl
      cases h
      simp only [VR] at hv
      obtain ⟨x, rfl, hlen, hvs⟩ := hv
      obtain ⟨a1, a2, a3⟩ := frzs_ok ih cs l x hl hvs hs hf
      exact ⟨fun ψ => ⟨x, rfl, by rw [hlen, a3], a1 ψ⟩, a2⟩
    · rename_i b off len cap
      split at h
      case h_2 => cases h
      rename_i y hb
      split at h
      case h_2 => cases h
      rename_i cs hcs
      split at h
      case h_2 => cases h
      rename_i l hl
      split at h
      case isFalse => cases h
      rename_i hlc
      cases h
      simp only [VR] at hv
      subst hv
      obtain ⟨c, e, fz, g1, g2, g3, g4, g5⟩ := hI.r b y hb
      obtain ⟨p1, p2, p3⟩ := getCells_spec hcs
      have hrows : rowsV σ (d + 1) (.sl b off len cap) = b :: cs.flatMap (rowsV σ d) := by simp [rowsV, hb, hcs]
      rw [hrows] at hf
      have hfz := hf b (by simp) y hb
      have hvs : VRs Z φ cs ((c.toList.drop ((φ b).base + off)).take (len * (y.esz % 7000000000))) := by
        rw [p2]
        have := VRs_take (VRs_drop g2 off) (len * (y.esz % 7000000000))
        rwa [List.drop_drop] at this
      obtain ⟨a1, a2, a3⟩ := frzs_ok ih cs l _ hl hvs (by rw [p2]; exact Scs_take (Scs_drop (hI.sc b y hb).2 _) _) (fun x hx => hf x (by simp [hx]))
      exact ⟨fun ψ => .inr ⟨(φ b).blk, (φ b).base + off, cap + (φ b).extra, c, e, fz, rfl, by omega, by rw [hfz, g1], by omega, VRs_untake (a1 ψ)⟩, a2⟩
    · cases h
    · rename_i f a c
      split at h
      case isFalse => cases h
      rename_i hp
      cases h
      simp only [Bool.and_eq_true] at hp
      have hsc : Sc 0 (.fn f a c) := ⟨Scs_pure _ hs.1 hp.1, Scs_pure _ hs.2 hp.2⟩
      exact ⟨fun ψ => VR_mono (n := 0) (fun b hb => absurd hb (by omega)) hZ _ _ hsc hv, hsc⟩
    · cases h
    · have hp : v.pure = true := by
        cases v <;> first | rfl | (rename_i h1 h2 h3 h4 h5 h6; first | exact (h1 _ rfl).elim | exact (h2 _ rfl).elim | exact (h3 _ _ _ _ rfl).elim | exact (h4 _ _ rfl).elim | exact (h5 _ _ _ rfl).elim | exact (h6 rfl).elim)
      cases h
      have hsc := Sc_pure _ hs hp
      exact ⟨fun ψ => VR_mono (n := 0) (fun b hb => absurd hb (by omega)) hZ _ _ hsc hv, hsc⟩

open Classical in
/-- More is frozen: the blocks of which p holds, as they lie now. -/
noncomputable def fzUp (Z : Fz) (w : World) (p : Nat → Prop) : Fz := fun B => if p B then w.heap[B]? else Z B

theorem fzUp_pos {p : Nat → Prop} {B : Nat} (h : p B) : fzUp Z w p B = w.heap[B]? := by unfold fzUp; rw [if_pos h]
theorem fzUp_neg {p : Nat → Prop} {B : Nat} (h : ¬ p B) : fzUp Z w p B = Z B := by unfold fzUp; rw [if_neg h]
theorem fzUp_le {p : Nat → Prop} (hz : ∀ B o, Z B = some o → w.heap[B]? = some o) (B : Nat) (o : Obj) (h : Z B = some o) : fzUp Z w p B = some o := by
  by_cases hp : p B
  · rw [fzUp_pos hp]; exact hz B o h
  · rw [fzUp_neg hp]; exact h
theorem fzUp_real {p : Nat → Prop} (hz : ∀ B o, Z B = some o → w.heap[B]? = some o) (B : Nat) (o : Obj) (h : fzUp Z w p B = some o) : w.heap[B]? = some o := by
  by_cases hp : p B
  · rw [fzUp_pos hp] at h; exact h
  · rw [fzUp_neg hp] at h; exact hz B o h

theorem Inv.empty {Z : Fz} {w : World} (φ : Nat → Pl) (hz : ∀ B o, Z B = some o → w.heap[B]? = some o) : Inv Z φ ⟨[], 0⟩ w :=
  ⟨hz, fun b x h => by simp [St.get, hget] at h, fun b x h => by simp [St.get, hget] at h, fun b b' x x' h => by simp [St.get, hget] at h, fun b x h => by simp [St.get, hget] at h⟩

theorem FP_empty {φ : Nat → Pl} {B : Nat} : ¬ FP ⟨[], 0⟩ φ B := by
  rintro ⟨b, x, h, _⟩
  simp [St.get, hget] at h

/-- What a call in a heap of its own leaves of the caller's world. -/
theorem own_frame {σ1 : St} {Z1 : Fz} {φ1 : Nat → Pl} (h : Ext Zc φ ⟨[], 0⟩ w Z1 φ1 σ1 w') (B : Nat) (hB : B < w.heap.size) : w'.heap[B]? = w.heap[B]? := h.fr B hB FP_empty

/-- The arguments are frozen while such a call runs. -/
theorem args_ok (hI : Inv Z φ σ w) {args args' : List AV} {us : List Value} (h : mapO (frzV σ frzDepth) args = some args') (hv : VRs Z φ args us) (hs : Scs σ.n args) :
    let p : Nat → Prop := fun B => ∃ b, b ∈ args.flatMap (rowsV σ frzDepth) ∧ ∃ y, σ.get b = some y ∧ (φ b).blk = B
    VRs (fzUp Z w p) φ args' us ∧ Scs 0 args' ∧ args'.length = args.length := by
  intro p
  have hle : ∀ B o, Z B = some o → fzUp Z w p B = some o := fzUp_le hI.z
  obtain ⟨a, b, c⟩ := frzs_ok (Zc := fzUp Z w p) (w := w) (frzV_ok hI hle frzDepth) args args' us h hv hs (fun b hb y hy => fzUp_pos ⟨b, hb, y, hy, rfl⟩)
  exact ⟨a φ, b, c⟩

theorem frzR_ok (hI : Inv Z φ σ w) {rows : List Nat} {σ1 : St} {Z1 : Fz} {φ1 : Nat → Pl} {v r : AV} {u : Value}
    (hG : Good (fzUp Z w fun B => ∃ b, b ∈ rows ∧ ∃ y, σ.get b = some y ∧ (φ b).blk = B) φ ⟨[], 0⟩ w v σ1 Z1 φ1 u w') (h : frzR σ1 σ rows v = some (r, σ')) :
    ∃ Z', Good Z φ σ w r σ' Z' φ u w' := by
  obtain ⟨g1, g2, g3, g4⟩ := hG
  have hfr := own_frame g4
  unfold frzR at h
  split at h
  case h_2 => cases h
  rename_i v' hv'
  have hle1 : ∀ B o, Z1 B = some o → fzUp Z1 w' (FP σ1 φ1) B = some o := fzUp_le g3.z
  obtain ⟨a1, a2⟩ := frzV_ok (Zc := fzUp Z1 w' (FP σ1 φ1)) g3 hle1 frzDepth v v' u hv' g1 g2 (fun b _ y hy => fzUp_pos ⟨b, y, hy, rfl⟩)
  split at h
  · rename_i hsc
    cases h
    refine ⟨Z, VR_scal _ _ hsc (a1 φ), Sc_mono (Nat.zero_le _) _ a2, hI.world fun B hB => hfr B (hB.elim hI.z_lt hI.fp_lt), ?_⟩
    exact ⟨fun _ _ h => h, fun _ h => .inl h, fun _ _ => rfl, Nat.le_refl _, g4.sz, fun B hB _ => hfr B hB, fun B hB => .inr hB, g4.os, g4.tape, g4.output⟩
  · cases h
    have hzz : ∀ B o, Z B = some o → fzUp Z1 w' (FP σ1 φ1) B = some o := fun B o h => hle1 B o (g4.zz B o (fzUp_le hI.z B o h))
    have hzn : ∀ B, fzUp Z1 w' (FP σ1 φ1) B ≠ none → Z B ≠ none ∨ w.heap.size ≤ B ∨ (∃ b, b ∈ rows ∧ ∃ y, σ.get b = some y ∧ (φ b).blk = B) := by
      intro B hB
      by_cases hF : FP σ1 φ1 B
      · rcases g4.fp B hF with h | h
        · exact .inr (.inl h)
        · exact (FP_empty h).elim
      · rw [fzUp_neg hF] at hB
        rcases g4.zn B hB with h | h | h
        · by_cases hp : ∃ b, b ∈ rows ∧ ∃ y, σ.get b = some y ∧ (φ b).blk = B
          · exact .inr (.inr hp)
          · rw [fzUp_neg hp] at h; exact .inl h
        · exact .inr (.inl h)
        · exact (FP_empty h).elim
    refine ⟨fzUp Z1 w' (FP σ1 φ1), a1 φ, Sc_mono (Nat.zero_le _) _ a2, ⟨fzUp_real g3.z, ?_, ?_, ?_, ?_⟩, ?_⟩
    · intro b x hb
      obtain ⟨_, hb⟩ := get_dels_some _ _ hb
      have := (hI.r b x hb).mono (φ' := φ) (fun _ _ => rfl) hzz (hI.sc b x hb).2
      obtain ⟨c, e, fz, k1, k2⟩ := this
      exact ⟨c, e, fz, by rw [hfr _ (hI.lt hb)]; exact k1, k2⟩
    · intro b x hb
      obtain ⟨hnr, hb⟩ := get_dels_some _ _ hb
      cases hz : fzUp Z1 w' (FP σ1 φ1) (φ b).blk with
      | none => rfl
      | some o =>
        rcases hzn _ (by rw [hz]; simp) with h | h | ⟨c, hc, y, hy, he⟩
        · exact absurd (hI.nz b x hb) h
        · exact absurd (hI.lt hb) (by omega)
        · by_cases hcb : c = b
          · subst hcb; exact (hnr hc).elim
          · exact (hI.inj c b y x hy hb hcb he).elim
    · intro b b' x x' hb hb'
      exact hI.inj b b' x x' (get_dels_some _ _ hb).2 (get_dels_some _ _ hb').2
    · intro b x hb
      rw [n_dels]
      exact hI.sc b x (get_dels_some _ _ hb).2
    · refine ⟨hzz, fun B hB => ?_, fun _ _ => rfl, by rw [n_dels]; exact Nat.le_refl _, g4.sz, fun B hB _ => hfr B hB, fun B hB => .inr ?_, g4.os, g4.tape, g4.output⟩
      · rcases hzn B hB with h | h | ⟨c, hc, y, hy, he⟩
        · exact .inl h
        · exact .inr (.inl h)
        · exact .inr (.inr ⟨c, y, hy, he⟩)
      · obtain ⟨b, x, hb, he⟩ := hB
        exact ⟨b, x, (get_dels_some _ _ hb).2, he⟩

/-- What holds while a call's results are handed over one by one. -/
structure Own (Z : Fz) (φ : Nat → Pl) (σ : St) (w : World) (φ1 : Nat → Pl) (φk : Nat → Pl) (σk : St) (w' : World) (used : List Nat) : Prop where
  inv : Inv Z φk σk w'
  ext : Ext Z φ σ w Z φk σk w'
  fp : ∀ B, FP σk φk B → FP σ φ B ∨ ∃ b, b ∈ used ∧ (φ1 b).blk = B

/-- What handing over one value owes. -/
def OwnOK (Z : Fz) (φ : Nat → Pl) (σ : St) (w : World) (Z1 : Fz) (φ1 : Nat → Pl) (σ1 : St) (w' : World) (f : St → List Nat → AV → Option (AV × St × List Nat)) : Prop :=
  ∀ (v r : AV) (u : Value) (φk : Nat → Pl) (σk : St) (used : List Nat) (σ' : St) (used' : List Nat), f σk used v = some (r, σ', used') → Own Z φ σ w φ1 φk σk w' used → (∀ b, b ∈ used → ∃ y, σ1.get b = some y) → VR Z1 φ1 v u →
    ∃ φ', Own Z φ σ w φ1 φ' σ' w' used' ∧ VR Z φ' r u ∧ Sc σ'.n r ∧ (∀ b, b ∈ used' → ∃ y, σ1.get b = some y) ∧ (∀ b, b < σk.n → φ' b = φk b) ∧ σk.n ≤ σ'.n

theorem ownL_ok {Z1 : Fz} {σ1 : St} {φ1 : Nat → Pl} {f : St → List Nat → AV → Option (AV × St × List Nat)} (hf : OwnOK Z φ σ w Z1 φ1 σ1 w' f) : ∀ (vs l : List AV) (us : List Value) (φk : Nat → Pl) (σk : St) (used : List Nat) (σ' : St) (used' : List Nat),
    ownL f σk used vs = some (l, σ', used') → Own Z φ σ w φ1 φk σk w' used → (∀ b, b ∈ used → ∃ y, σ1.get b = some y) → VRs Z1 φ1 vs us →
    ∃ φ', Own Z φ σ w φ1 φ' σ' w' used' ∧ VRs Z φ' l us ∧ Scs σ'.n l ∧ l.length = vs.length ∧ (∀ b, b ∈ used' → ∃ y, σ1.get b = some y) ∧ (∀ b, b < σk.n → φ' b = φk b) ∧ σk.n ≤ σ'.n
  | [], l, us, φk, σk, used, σ', used', h, hO, hu, hv => by
    simp only [ownL] at h
    cases h
    exact ⟨φk, hO, trivial, trivial, rfl, hu, fun _ _ => rfl, Nat.le_refl _⟩
  | v :: r, l, [], φk, σk, used, σ', used', h, hO, hu, hv => hv.elim
  | v :: r, l, u :: us, φk, σk, used, σ', used', h, hO, hu, hv => by
    simp only [ownL] at h
    split at h
    case h_2 => cases h
    rename_i v' σ2 used2 h1
    split at h
    case h_2 => cases h
    rename_i l' σ3 used3 h2
    cases h
    obtain ⟨φ2, a1, a2, a3, a4, a5, a6⟩ := hf v v' u φk σk used σ2 used2 h1 hO hu hv.1
    obtain ⟨φ3, b1, b2, b3, b4, b5, b6, b7⟩ := ownL_ok hf r l' us φ2 σ2 used2 σ' used' h2 a1 a4 hv.2
    exact ⟨φ3, b1, ⟨VR_mono (fun b hb => b6 b hb) (fun _ _ h => h) _ _ a3 a2, b2⟩, ⟨Sc_mono b7 _ a3, b3⟩, by simp [b4], b5, fun b hb => (b6 b (by omega)).trans (a5 b hb), by omega⟩

theorem ownV_ok (hI : Inv Z φ σ w) {Z0 Z1 : Fz} {σ1 : St} {φ1 : Nat → Pl} (hI1 : Inv Z1 φ1 σ1 w') (hE1 : Ext Z0 φ ⟨[], 0⟩ w Z1 φ1 σ1 w') : ∀ d, OwnOK Z φ σ w Z1 φ1 σ1 w' (ownV σ1 d) := by
  intro d
  induction d with
  | zero => intro v r u φk σk used σ' used' h; cases h
  | succ d ih =>
    intro v r u φk σk used σ' used' h hO0 hused0 hv
    unfold ownV at h
    split at h
    · rename_i b off len cap
      split at h
      case h_2 => cases h
      rename_i y hb
      split at h
      case h_2 => cases h
      rename_i l σj usedj hl
      split at h
      case isFalse => cases h
      rename_i hc
      obtain ⟨c1, c2, c3⟩ := hc
      cases h
      simp only [VR] at hv
      subst hv
      obtain ⟨c, e, fz, g1, g2, g3, g4, g5⟩ := hI1.r b y hb
      have hvs : VRs Z1 φ1 (y.cells.drop off) (c.toList.drop ((φ1 b).base + off)) := by
        have := VRs_drop g2 off
        rwa [List.drop_drop] at this
      obtain ⟨φj, hO, k2, k3, k4, hused, k6, k7⟩ := ownL_ok ih _ _ _ φk σk used _ _ hl hO0 hused0 hvs
      have hnu : b ∉ usedj := by simpa using c1
      have hfresh : w.heap.size ≤ (φ1 b).blk := (hE1.fp _ ⟨b, y, hb, rfl⟩).resolve_right FP_empty
      have hz : Z (φ1 b).blk = none := by
        cases hz : Z (φ1 b).blk with
        | none => rfl
        | some o => exact absurd (hI.z_lt (B := (φ1 b).blk) (by simp [hz])) (by omega)
      have hnf : ¬ FP σj φj (φ1 b).blk := by
        intro hF
        rcases hO.fp _ hF with h | ⟨b', hb', he⟩
        · exact absurd (hI.fp_lt h) (by omega)
        · obtain ⟨y', hy'⟩ := hused b' hb'
          exact hI1.inj b' b y' y hy' hb (fun e => hnu (e ▸ hb')) he
      have hreal : Real Z φj ⟨l, y.esz, y.opn⟩ ⟨(φ1 b).blk, (φ1 b).base + off, (φ1 b).extra⟩ w' := by
        refine ⟨c, e, fz, g1, k2, ?_, g4, g5.1, fun h => absurd h (by show ¬ _ ≤ y.esz; omega)⟩
        show (φ1 b).base + off + l.length + _ ≤ _
        simp only [k4, List.length_drop]
        omega
      have hInv := hO.inv.push_at hreal hz hnf k3
      refine ⟨upd φj σj.n ⟨(φ1 b).blk, (φ1 b).base + off, (φ1 b).extra⟩, ⟨hInv, ?_, ?_⟩, ?_, ?_, ?_, fun d hd => (upd_lt (by omega)).trans (k6 d hd), by show σk.n ≤ σj.n + 1; omega⟩
      · have hE := hO.ext
        refine ⟨hE.zz, hE.zn, fun d hd => by rw [upd_lt (by have := hE.nn; omega)]; exact hE.ph d hd, by have := hE.nn; show σ.n ≤ σj.n + 1; omega, hE.sz, hE.fr, fun B hB => ?_, hE.os, hE.tape, hE.output⟩
        rcases FP_push (fun d yd hd => (hO.inv.sc d yd hd).1) hB with rfl | hB
        · exact .inl hfresh
        · exact hE.fp B hB
      · intro B hB
        rcases FP_push (fun d yd hd => (hO.inv.sc d yd hd).1) hB with rfl | hB
        · exact .inr ⟨b, by simp, rfl⟩
        · rcases hO.fp B hB with h | ⟨d, hd, he⟩
          · exact .inl h
          · exact .inr ⟨d, by simp [hd], he⟩
      · simp only [VR, upd_same, Nat.add_zero]
      · show σj.n < σj.n + 1; omega
      · intro d hd
        rcases List.mem_cons.1 hd with rfl | hd
        · exact ⟨y, hb⟩
        · exact hused d hd
    · rename_i cs
      split at h
      case h_2 => cases h
      rename_i l σj usedj hl
      cases h
      simp only [VR] at hv
      obtain ⟨x, rfl, hx, hv⟩ := hv
      obtain ⟨φ', a1, a2, a3, a4, a5, a6, a7⟩ := ownL_ok ih cs l x φk σk used _ _ hl hO0 hused0 hv
      exact ⟨φ', a1, ⟨x, rfl, by rw [hx, a4], a2⟩, a3, a5, a6, a7⟩
    · split at h
      case isFalse => cases h
      rename_i hs
      cases h
      exact ⟨φk, hO0, VR_scal _ _ hs hv, Sc_mono (Nat.zero_le _) _ (Sc_scal _ hs), hused0, fun _ _ => rfl, Nat.le_refl _⟩

theorem ownR_ok (hI : Inv Z φ σ w) {Z0 : Fz} {σ1 : St} {Z1 : Fz} {φ1 : Nat → Pl} {v r : AV} {u : Value} (hG : Good Z0 φ ⟨[], 0⟩ w v σ1 Z1 φ1 u w') (h : ownR σ1 σ v = some (r, σ')) :
    ∃ φ', Good Z φ σ w r σ' Z φ' u w' := by
  obtain ⟨g1, g2, g3, g4⟩ := hG
  have hfr := own_frame g4
  have hO : Own Z φ σ w φ1 φ σ w' [] := ⟨hI.world fun B hB => hfr B (hB.elim hI.z_lt hI.fp_lt),
    ⟨fun _ _ h => h, fun _ h => .inl h, fun _ _ => rfl, Nat.le_refl _, g4.sz, fun B hB _ => hfr B hB, fun B hB => .inr hB, g4.os, g4.tape, g4.output⟩, fun B hB => .inl hB⟩
  unfold ownR at h
  split at h
  · rename_i vs
    split at h
    case h_2 => cases h
    rename_i l σ2 used2 h1
    cases h
    simp only [VR] at g1
    obtain ⟨x, rfl, hl, hv⟩ := g1
    obtain ⟨φ', a1, a2, a3, a4, _⟩ := ownL_ok (ownV_ok hI g3 g4 ownDepth) vs l x φ σ [] _ _ h1 hO (fun b hb => by cases hb) hv
    exact ⟨φ', ⟨x, rfl, by rw [hl, a4], a2⟩, a3, a1.inv, a1.ext⟩
  · split at h
    case h_2 => cases h
    rename_i x σ2 used' h1
    cases h
    obtain ⟨φ', a1, a2, a3, _⟩ := ownV_ok hI g3 g4 ownDepth _ _ _ φ σ [] _ _ h1 hO (fun b hb => by cases hb) g1
    exact ⟨φ', a2, a3, a1.inv, a1.ext⟩

end Go.Abs
