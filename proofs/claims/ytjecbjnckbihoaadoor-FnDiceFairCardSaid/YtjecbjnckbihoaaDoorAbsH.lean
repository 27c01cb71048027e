/- Each operation of the interpreter holds of the model's, fourth part. Nothing is claimed here; no condition. -/
import Derived.Test.YtjecbjnckbihoaaDoorAbsG
namespace Go.Abs
open Go

variable {P : Program} {T : Tab} {Z : Fz} {φ : Nat → Pl} {σ σ' : St} {w w' : World}

theorem fieldAddr_ok (hT : TyT P T) {t : TypeId} {x v : AV} {u : Value} {f : Nat} (h : fieldAddrA T t x f = some v) (hx : VR Z φ x u) (hs : Sc σ.n x) :
    ∃ r, (Instr.fieldAt t u f).run P w = .ok r w ∧ VR Z φ v r ∧ Sc σ.n v := by
  unfold fieldAddrA at h
  split at h
  case h_2 => cases h
  rename_i i ht
  split at h
  case h_2 => cases h
  rename_i fs hk
  obtain ⟨gs, hu, hfs⟩ := hT.struct ht hk
  split at h
  case h_2 => cases h
  rename_i ft o hf
  split at h
  case h_2 => cases h
  rename_i z hz
  split at h
  · cases h
  rename_i h0
  have ok := hT.ok hz
  obtain ⟨g, hg, rfl, rfl⟩ : ∃ g, gs[f]? = some g ∧ g.type = ft ∧ g.offset = o := by
    subst hfs
    rw [List.getElem?_map] at hf
    cases hg : gs.toList[f]? with
    | none => rw [hg] at hf; cases hf
    | some g =>
      rw [hg] at hf
      simp at hf
      exact ⟨g, by simpa using hg, hf.1, hf.2⟩
  have hrun : ∀ B o, (Instr.fieldAt t (.pointer (some ⟨B, o, none⟩)) f).run P w = .ok (.pointer (some ⟨B, o + g.offset, none⟩)) w := by
    intro B o
    simp [Instr.fieldAt, run_underlying hu, hg, Instr.sureAddr, fieldPlace, ok.size, h0, addr_add]
  split at h
  · rename_i b off
    simp only [VR] at hx
    cases h
    subst hx
    exact ⟨_, hrun _ _, by simp [VR, Nat.add_assoc], hs⟩
  · rename_i cs off
    simp only [VR] at hx
    cases h
    obtain ⟨B, ob, c, e, fz, rfl, r⟩ := hx
    exact ⟨_, hrun _ _, ⟨B, ob, c, e, fz, by simp [Nat.add_assoc], r⟩, hs⟩
  · cases h

theorem part_ok (hT : TyT P T) {t : TypeId} {cs : List AV} {off : Nat} {v : AV} {us : List Value} {n : Nat} (h : partA T t cs off = some v) (hl : us.length = cs.length) (hv : VRs Z φ cs us) (hs : Scs n cs) :
    ∃ r, (part t ⟨us⟩ off).run P w = .ok r w ∧ VR Z φ v r ∧ Sc n v := by
  unfold partA at h
  split at h
  case h_2 => cases h
  rename_i z hz
  split at h
  case h_2 => cases h
  rename_i p hp
  have ok := hT.ok hz
  obtain ⟨h1, h2, h3⟩ := getCells_spec hp
  have hvp : VRs Z φ p ((us.drop off).take z.size) := by rw [h2]; exact VRs_take (VRs_drop hv off) _
  have hsp : Scs n p := by rw [h2]; exact Scs_take (Scs_drop hs _) _
  have hlp : ((us.drop off).take z.size).length = p.length := by simp; omega
  rcases asVar_ok h hlp hvp hsp with ⟨hagg, hr, hsr⟩ | ⟨hagg, u, hu, hr, hsr⟩
  · refine ⟨_, ?_, hr, hsr⟩
    simp only [part, Sem.run_bind, ok.agg, Result.andThen_ok, hagg, if_true, ok.size, Sem.run_pure]
    congr 2
    apply Array.toList_inj.1
    simp [List.extract_eq_take_drop]
  · have hone : z.size = 1 := by
      have := congrArg List.length hu
      simp at this; omega
    rw [hone] at hu
    have hget : us[off]? = some u := take_one hu
    refine ⟨u, ?_, hr, hsr⟩
    have hget' : (⟨us⟩ : Array Value)[off]? = some u := by simpa using hget
    simp only [part, Sem.run_bind, ok.agg, Result.andThen_ok, hagg, Bool.false_eq_true, if_false]
    rw [hget']
    rfl

theorem field_ok (hT : TyT P T) {t : TypeId} {x v : AV} {u : Value} {f n : Nat} (h : fieldA T t x f = some v) (hx : VR Z φ x u) (hs : Sc n x) :
    ∃ r, (Instr.field t u f).run P w = .ok r w ∧ VR Z φ v r ∧ Sc n v := by
  unfold fieldA at h
  split at h
  case h_2 => cases h
  rename_i i ht
  split at h
  case h_2 => cases h
  rename_i fs cs hk
  obtain ⟨gs, hu, hfs⟩ := hT.struct ht hk
  split at h
  case h_2 => cases h
  rename_i ft o hf
  obtain ⟨g, hg, rfl, rfl⟩ : ∃ g, gs[f]? = some g ∧ g.type = ft ∧ g.offset = o := by
    subst hfs
    rw [List.getElem?_map] at hf
    cases hg : gs.toList[f]? with
    | none => rw [hg] at hf; cases hf
    | some g =>
      rw [hg] at hf
      simp at hf
      exact ⟨g, by simpa using hg, hf.1, hf.2⟩
  simp only [VR] at hx
  obtain ⟨us, rfl, hl, hv⟩ := hx
  obtain ⟨r, hr, h1, h2⟩ := part_ok (P := P) (w := w) hT h hl hv hs
  refine ⟨r, ?_, h1, h2⟩
  simp [Instr.field, run_underlying hu, hg, asAgg, hr]

theorem indexAddr_ok (hT : TyT P T) {t : TypeId} {x ix v : AV} {u ui : Value} {n : Nat} (h : indexAddrA T t x ix = some v) (hx : VR Z φ x u) (hi : VR Z φ ix ui) (hs : Sc n x) :
    ∃ r, (Instr.indexAt t u ui).run P w = .ok r w ∧ VR Z φ v r ∧ Sc n v := by
  unfold indexAddrA at h
  simp only [inB_eq, bif_dec] at h
  split at h
  case h_2 => cases h
  rename_i i k m ht
  simp only [VR] at hi
  subst hi
  split at h
  · rename_i e hk
    have hu := hT.slice ht hk
    split at h
    case h_2 => cases h
    rename_i z hz
    have ok := hT.ok hz
    split at h
    · rename_i b off len cap
      split at h
      case isFalse => cases h
      rename_i hb
      cases h
      simp only [VR] at hx
      subst hx
      refine ⟨.pointer (some ⟨(φ b).blk, (φ b).base + (off + m.toNat * z.size), none⟩), ?_, rfl, hs⟩
      simp [Instr.indexAt, asIntOf, run_underlying hu, hb, ok.size, addr_add, Nat.add_assoc]
    · rename_i len cs
      split at h
      case isFalse => cases h
      rename_i hb
      cases h
      simp only [VR] at hx
      rcases hx with ⟨h0, _⟩ | ⟨B, o, cap, c, e', fz, rfl, hle, hZ, hc, hv⟩
      · omega
      · refine ⟨.pointer (some ⟨B, o + m.toNat * z.size, none⟩), ?_, ⟨B, o, c, e', fz, rfl, hZ, hc, hv⟩, hs⟩
        simp [Instr.indexAt, asIntOf, run_underlying hu, hb, ok.size, addr_add]
    · cases h
  · rename_i len e hk
    have hu := hT.array ht hk
    split at h
    case h_2 => cases h
    rename_i z hz
    have ok := hT.ok hz
    split at h
    case isFalse => cases h
    rename_i hb
    split at h
    · rename_i b off
      cases h
      simp only [VR] at hx
      subst hx
      refine ⟨.pointer (some ⟨(φ b).blk, (φ b).base + (off + m.toNat * z.size), none⟩), ?_, rfl, hs⟩
      simp [Instr.indexAt, asIntOf, run_underlying hu, hb, ok.size, addr_add, Nat.add_assoc, Instr.sureAddr]
    · rename_i cs off
      cases h
      simp only [VR] at hx
      obtain ⟨B, o, c, e', fz, rfl, hr⟩ := hx
      refine ⟨.pointer (some ⟨B, o + (off + m.toNat * z.size), none⟩), ?_, ⟨B, o, c, e', fz, rfl, hr⟩, hs⟩
      simp [Instr.indexAt, asIntOf, run_underlying hu, hb, ok.size, addr_add, Nat.add_assoc, Instr.sureAddr]
    · cases h
  · cases h

theorem index_ok (hT : TyT P T) {t : TypeId} {x ix v : AV} {u ui : Value} {n : Nat} (h : indexA T t x ix = some v) (hx : VR Z φ x u) (hi : VR Z φ ix ui) (hs : Sc n x) :
    ∃ r, (Instr.index t u ui).run P w = .ok r w ∧ VR Z φ v r ∧ Sc n v := by
  unfold indexA at h
  simp only [inB_eq, bif_dec, bif_ile] at h
  split at h
  case h_2 => cases h
  rename_i i k m ht
  simp only [VR] at hi
  subst hi
  split at h
  · rename_i s hk
    have hu := hT.string ht hk
    simp only [VR] at hx
    subst hx
    split at h
    case isFalse => cases h
    rename_i h0
    split at h
    case h_2 => cases h
    rename_i b hb
    cases h
    refine ⟨.int .u8 b.toNat, ?_, rfl, trivial⟩
    have hb' : (⟨⟨s⟩⟩ : ByteArray)[m.toNat]? = some b := by
      obtain ⟨hlt, he⟩ := List.getElem?_eq_some_iff.1 hb
      have hlt' : m.toNat < (⟨⟨s⟩⟩ : ByteArray).size := hlt
      rw [getElem?_pos (⟨⟨s⟩⟩ : ByteArray) m.toNat hlt']
      exact congrArg some he
    simp [Instr.index, asIntOf, run_underlying hu, h0, hb']
  · rename_i len e cs hk
    have hu := hT.array ht hk
    split at h
    case h_2 => cases h
    rename_i z hz
    have ok := hT.ok hz
    split at h
    case isFalse => cases h
    rename_i hb
    simp only [VR] at hx
    obtain ⟨us, rfl, hl, hv⟩ := hx
    obtain ⟨r, hr, h1, h2⟩ := part_ok (P := P) (w := w) hT h hl hv hs
    refine ⟨r, ?_, h1, h2⟩
    simp [Instr.index, asIntOf, run_underlying hu, hb, ok.size, hr]
  · cases h

theorem lenOp_ok (hT : TyT P T) {t ty : TypeId} {x v : AV} {u : Value} (h : lenOpA T t x = some v) (hx : VR Z φ x u) :
    ∃ r, (Builtin.len_ #[t] ty #[u]).run P w = .ok r w ∧ VR Z φ v r ∧ ∀ n, Sc n v := by
  unfold lenOpA at h
  split at h
  case h_2 => cases h
  rename_i i ht
  split at h
  · rename_i n e hk
    cases h
    exact ⟨.int .i64 n, by simp [Builtin.len_, run_underlying (hT.array ht hk), goInt], rfl, fun _ => trivial⟩
  · rename_i hk
    split at h
    case h_2 => cases h
    cases h
    simp only [VR] at hx
    subst hx
    rename_i s
    exact ⟨.int .i64 s.length, by simp [Builtin.len_, run_underlying (hT.string ht hk), goInt]; rfl, rfl, fun _ => trivial⟩
  · rename_i e hk
    have hu := hT.slice ht hk
    split at h
    · cases h
    rename_i hns
    split at h
    case h_2 => cases h
    rename_i n hn
    cases h
    have : ∃ a c, u = .slice a n c := by
      cases x <;> simp only [lenA] at hn <;> first | (cases hn; done) | (exact (hns _ rfl).elim) | skip
      · simp only [VR] at hx; cases hn
        rcases hx with ⟨h0, _, a, acap, rfl⟩ | ⟨_, _, _, _, _, _, rfl, _⟩
        · subst h0; exact ⟨_, _, rfl⟩
        · exact ⟨_, _, rfl⟩
      · simp only [VR] at hx; cases hn; exact ⟨_, _, hx⟩
      · simp only [VR] at hx; cases hn; exact ⟨_, _, hx⟩
    obtain ⟨a, c, rfl⟩ := this
    exact ⟨.int .i64 n, by simp [Builtin.len_, run_underlying hu, goInt], rfl, fun _ => trivial⟩
  · cases h

theorem capOp_ok (hT : TyT P T) (hI : Inv Z φ σ w) {t ty : TypeId} {x v : AV} {u : Value} (h : capOpA T σ t x = some v) (hx : VR Z φ x u) :
    ∃ r, (Builtin.cap_ #[t] ty #[u]).run P w = .ok r w ∧ VR Z φ v r ∧ ∀ n, Sc n v := by
  unfold capOpA at h
  split at h
  case h_2 => cases h
  rename_i i ht
  split at h
  · rename_i e b off len cap hk
    split at h
    case h_2 => cases h
    rename_i y hb
    split at h
    case isFalse => cases h
    rename_i ho
    cases h
    simp only [VR] at hx
    subst hx
    obtain ⟨c, ce, fz, g1, g2, g3, g4, g5⟩ := hI.r b y hb
    exact ⟨.int .i64 cap, by simp [Builtin.cap_, run_underlying (hT.slice ht hk), goInt, g5.1 ho], rfl, fun _ => trivial⟩
  · rename_i e hk
    cases h
    simp only [VR] at hx
    subst hx
    exact ⟨.int .i64 0, by simp [Builtin.cap_, run_underlying (hT.slice ht hk), goInt], rfl, fun _ => trivial⟩
  · cases h


theorem VRs_untake {xs : List AV} {us : List Value} {n : Nat} (h : VRs Z φ xs (us.take n)) : VRs Z φ xs us := by
  obtain ⟨h1, h2⟩ := VRs_iff.1 h
  have h3 : (us.take n).length ≤ us.length := by simp; omega
  refine VRs_iff.2 ⟨by omega, fun i x y hx hy => h2 i x y hx ?_⟩
  have hi := (List.getElem?_eq_some_iff.1 hx).1
  have hi2 : i < n := by
    have : (us.take n).length ≤ n := by simp; omega
    omega
  rw [List.getElem?_take, if_pos hi2]; exact hy

theorem bound_ok {x : Option AV} {ux : Option Value} {y d r : Nat} {code : BoundsCode} (h : boundA x y d = some r) (hx : ∀ v, x = some v → ∃ u, ux = some u ∧ VR Z φ v u) (hn : x = none → ux = none) :
    r ≤ y ∧ ((ux = none ∧ r = d) ∨ (∃ u, ux = some u ∧ (Instr.sliceBound u y code).run P w = .ok r w)) := by
  unfold boundA at h
  split at h
  · split at h
    case isFalse => cases h
    cases h; exact ⟨by assumption, .inl ⟨hn rfl, rfl⟩⟩
  · rename_i k i
    split at h
    case isFalse => cases h
    rename_i hb
    cases h
    obtain ⟨u, rfl, hu⟩ := hx _ rfl
    simp only [VR] at hu
    subst hu
    exact ⟨by omega, .inr ⟨_, rfl, run_sliceBound w k i y code hb.1 hb.2⟩⟩
  · cases h

/-- The bounds of a slice expression without a third one; the model's capacity may be the greater one. -/
theorem bounds_ok {isS : Bool} {lo hi : Option AV} {ulo uhi : Option Value} {len cap cap' l h : Nat} (hh : boundA hi cap len = some h) (hl : boundA lo h 0 = some l)
    (h1 : ∀ v, hi = some v → ∃ u, uhi = some u ∧ VR Z φ v u) (h1' : hi = none → uhi = none) (h2 : ∀ v, lo = some v → ∃ u, ulo = some u ∧ VR Z φ v u) (h2' : lo = none → ulo = none) (hcap : cap ≤ cap') :
    (Instr.sliceBounds isS len cap' ulo uhi none).run P w = .ok (l, h, cap') w ∧ l ≤ h ∧ h ≤ cap := by
  have hb : h ≤ cap := (bound_ok (P := P) (w := w) (code := .index) hh h1 h1').1
  have hh' : boundA hi cap' len = some h := by
    unfold boundA at hh ⊢
    split at hh
    · split at hh
      case isFalse => cases hh
      rw [if_pos (by omega)]; exact hh
    · rename_i k i
      split at hh
      case isFalse => cases hh
      rename_i hbb
      rw [if_pos (by omega)]; exact hh
    · cases hh
  have lb : l ≤ h := (bound_ok (P := P) (w := w) (code := .index) hl h2 h2').1
  refine ⟨?_, lb, hb⟩
  obtain ⟨_, hA⟩ := bound_ok (P := P) (w := w) (code := if isS then .sliceAcap else .sliceAlen) hh' h1 h1'
  obtain ⟨_, hB⟩ := bound_ok (P := P) (w := w) (code := .sliceB) hl h2 h2'
  rcases hA with ⟨rfl, rfl⟩ | ⟨u, rfl, hr⟩ <;> rcases hB with ⟨rfl, rfl⟩ | ⟨u', rfl, hr'⟩ <;> simp_all [Instr.sliceBounds]

/-- ... and with a third one. -/
theorem slice3_ok (hT : TyT P T) {t : TypeId} {x v : AV} {u : Value} {lo hi : Option AV} {mx : AV} {ulo uhi : Option Value} {umx : Value} (h : slice3A T σ t x lo hi mx = some v) (hI : Inv Z φ σ w) (hx : VR Z φ x u) (hs : Sc σ.n x)
    (h1 : ∀ v, hi = some v → ∃ u, uhi = some u ∧ VR Z φ v u) (h2 : ∀ v, lo = some v → ∃ u, ulo = some u ∧ VR Z φ v u) (h2' : lo = none → ulo = none) (h3 : VR Z φ mx umx) :
    ∃ r, (Instr.sliceAt t u ulo uhi (some umx)).run P w = .ok r w ∧ VR Z φ v r ∧ Sc σ.n v := by
  unfold slice3A at h
  split at h
  case h_2 => cases h
  rename_i i ht
  split at h
  case h_2 => cases h
  rename_i e b off len cap k1 hh k2 m hk
  have hu := hT.slice ht hk
  simp only [VR] at hx h3
  subst hx h3
  split at h
  case h_2 => cases h
  rename_i z hz
  have ok := hT.ok hz
  split at h
  case isFalse => cases h
  rename_i hb
  obtain ⟨uh, rfl, huh⟩ := h1 _ rfl
  simp only [VR] at huh
  subst huh
  split at h
  case h_2 => cases h
  rename_i l hlo
  obtain ⟨lb, hB⟩ := bound_ok (P := P) (w := w) (code := .slice3C) hlo h2 h2'
  have r1 := run_sliceBound (P := P) w k2 m (cap + (φ b).extra) .slice3Acap hb.1 (by omega)
  have r2 := run_sliceBound (P := P) w k1 hh m.toNat .slice3B hb.2.2.1 (by omega)
  have hr : (Instr.sliceBounds true len (cap + (φ b).extra) ulo (some (.int k1 hh)) (some (.int k2 m))).run P w = .ok (l, hh.toNat, m.toNat) w := by
    rcases hB with ⟨rfl, rfl⟩ | ⟨u', rfl, hr'⟩ <;> simp_all [Instr.sliceBounds]
  have hrun : (Instr.sliceAt t (.slice (some ⟨(φ b).blk, (φ b).base + off, none⟩) len (cap + (φ b).extra)) ulo (some (.int k1 hh)) (some (.int k2 m))).run P w =
      .ok (.slice (if m.toNat = l then some ⟨(φ b).blk, (φ b).base + off, none⟩ else some ⟨(φ b).blk, (φ b).base + off + l * z.size, none⟩) (hh.toNat - l) (m.toNat - l)) w := by
    simp [Instr.sliceAt, Instr.slice, run_underlying hu, hr, ok.size, addr_add]
  split at h
  · rename_i y hy
    split at h
    · rename_i hc
      cases h
      refine ⟨_, hrun, ?_, hs⟩
      obtain ⟨c, ce, fz, g1, g2, g3, g4, g5⟩ := hI.r b y hy
      have hx0 := g5.1 hc.1
      simp only [VR]
      rw [hx0, Nat.add_zero]
      split
      · rename_i hcl
        have : l = 0 := by omega
        subst this
        simp
      · rw [Nat.add_assoc]
    · cases h; exact ⟨_, hrun, trivial, trivial⟩
  · cases h; exact ⟨_, hrun, trivial, trivial⟩

theorem slice_ok (hT : TyT P T) (hI : Inv Z φ σ w) {t : TypeId} {x v : AV} {u : Value} {lo hi : Option AV} {ulo uhi : Option Value} (h : sliceA T σ t x lo hi = some v) (hx : VR Z φ x u) (hs : Sc σ.n x)
    (h1 : ∀ v, hi = some v → ∃ u, uhi = some u ∧ VR Z φ v u) (h1' : hi = none → uhi = none) (h2 : ∀ v, lo = some v → ∃ u, ulo = some u ∧ VR Z φ v u) (h2' : lo = none → ulo = none) :
    ∃ r, (Instr.sliceAt t u ulo uhi none).run P w = .ok r w ∧ VR Z φ v r ∧ Sc σ.n v := by
  unfold sliceA at h
  split at h
  case h_2 => cases h
  rename_i i ht
  split at h
  · -- a text
    rename_i s hk
    have hu := hT.string ht hk
    simp only [VR] at hx
    subst hx
    split at h
    case h_2 => cases h
    rename_i b hb
    split at h
    case h_2 => cases h
    rename_i l hl
    cases h
    obtain ⟨hr, _, _⟩ := bounds_ok (P := P) (w := w) (isS := false) hb hl h1 h1' h2 h2' (Nat.le_refl _)
    refine ⟨.string ⟨⟨(s.take b).drop l⟩⟩, ?_, rfl, trivial⟩
    have hsz : (⟨⟨s⟩⟩ : ByteArray).size = s.length := rfl
    simp [Instr.sliceAt, Instr.slice, run_underlying hu, hsz, hr, extract_str]
  · -- a slice of the heap
    rename_i e b off len cap hk
    have hu := hT.slice ht hk
    simp only [VR] at hx
    subst hx
    split at h
    case h_2 => cases h
    rename_i z hz
    have ok := hT.ok hz
    split at h
    case h_2 => cases h
    rename_i hh hhi
    split at h
    case h_2 => cases h
    rename_i l hlo
    obtain ⟨hr, hl1, hl2⟩ := bounds_ok (P := P) (w := w) (isS := true) hhi hlo h1 h1' h2 h2' (Nat.le_add_right cap (φ b).extra)
    have hrun : (Instr.sliceAt t (.slice (some ⟨(φ b).blk, (φ b).base + off, none⟩) len (cap + (φ b).extra)) ulo uhi none).run P w =
        .ok (.slice (if cap + (φ b).extra = l then some ⟨(φ b).blk, (φ b).base + off, none⟩ else some ⟨(φ b).blk, (φ b).base + off + l * z.size, none⟩) (hh - l) (cap + (φ b).extra - l)) w := by
      simp [Instr.sliceAt, Instr.slice, run_underlying hu, hr, ok.size, addr_add]
    split at h
    · rename_i hc
      cases h
      refine ⟨_, hrun, ?_, hs⟩
      simp only [VR]
      have e1 : cap + (φ b).extra - l = cap - l + (φ b).extra := by omega
      rw [e1]
      split
      · rename_i hcl
        have : l = 0 := by omega
        subst this
        simp
      · rw [Nat.add_assoc]
    · rename_i hc
      split at h
      case isFalse =>
        cases h
        refine ⟨_, hrun, ?_, trivial⟩
        have h0 : hh - l = 0 := by omega
        rw [h0]
        simp only [VR]
        exact .inl ⟨trivial, trivial, _, _, rfl⟩
      rename_i hy0
      split at h
      case h_2 => cases h
      rename_i y hb
      split at h
      case isFalse => cases h
      rename_i hy
      cases h
      obtain ⟨c, ce, fz, g1, g2, g3, g4, g5⟩ := hI.r b y hb
      have hx0 := g5.1 hy.1
      refine ⟨_, hrun, ?_, hs⟩
      simp only [VR]
      rw [if_pos (by omega), show hh - l = 0 by omega, show cap + (φ b).extra - l = 0 + (φ b).extra by omega]
  · -- a frozen slice
    rename_i e len cs hk
    have hu := hT.slice ht hk
    simp only [VR] at hx
    split at h
    case h_2 => cases h
    rename_i z hz
    have ok := hT.ok hz
    split at h
    case h_2 => cases h
    rename_i hh hhi
    split at h
    case h_2 => cases h
    rename_i l hlo
    split at h
    case h_2 => cases h
    rename_i cs' hcs
    cases h
    obtain ⟨p1, p2, p3⟩ := getCells_spec hcs
    rcases hx with ⟨h0, rfl, a, acap, rfl⟩ | ⟨B, o, cap, c, e', fz, rfl, hle, hZ, hc, hv⟩
    · subst h0
      obtain ⟨hr, hl1, hl2⟩ := bounds_ok (P := P) (w := w) (isS := true) hhi hlo h1 h1' h2 h2' (Nat.zero_le acap)
      have hl0 : l = 0 := by omega
      have hh0 : hh = 0 := by omega
      subst hl0 hh0
      refine ⟨.slice (if acap = 0 then a else a.map (·.add 0)) 0 acap, ?_, ?_, ?_⟩
      · cases a <;> simp [Instr.sliceAt, Instr.slice, run_underlying hu, hr, ok.size]
      · simp at p2; simp [VR, p2]
      · simp at p2; subst p2; trivial
    · obtain ⟨hr, hl1, hl2⟩ := bounds_ok (P := P) (w := w) (isS := true) hhi hlo h1 h1' h2 h2' hle
      refine ⟨.slice (if cap = l then some ⟨B, o, none⟩ else some ⟨B, o + l * z.size, none⟩) (hh - l) (cap - l), ?_, ?_, ?_⟩
      · simp [Instr.sliceAt, Instr.slice, run_underlying hu, hr, ok.size, addr_add]
      · simp only [VR]
        right
        split
        · rename_i hcl
          have e0 : hh - l = 0 := by omega
          rw [e0] at p2 p1 p3 ⊢
          simp at p2
          subst p2
          exact ⟨B, o, _, c, e', fz, rfl, by omega, hZ, by simp; omega, trivial⟩
        · refine ⟨B, o + l * z.size, _, c, e', fz, rfl, by omega, hZ, by omega, ?_⟩
          rw [p2]
          have := VRs_take (VRs_drop hv (l * z.size)) ((hh - l) * z.size)
          rw [List.drop_drop] at this
          exact VRs_untake this
      · show Scs 0 cs'
        rw [p2]; exact Scs_take (Scs_drop hs _) _
  · -- nil
    rename_i e hk
    have hu := hT.slice ht hk
    simp only [VR] at hx
    subst hx
    split at h
    case h_2 => cases h
    rename_i z hz
    have ok := hT.ok hz
    split at h
    case h_2 => cases h
    rename_i hh hhi
    split at h
    case h_2 => cases h
    rename_i l hlo
    cases h
    obtain ⟨hr, hl1, hl2⟩ := bounds_ok (P := P) (w := w) (isS := true) hhi hlo h1 h1' h2 h2' (Nat.le_refl 0)
    have hl0 : l = 0 := by omega
    have hh0 : hh = 0 := by omega
    subst hl0 hh0
    refine ⟨.slice none 0 0, ?_, rfl, trivial⟩
    simp [Instr.sliceAt, Instr.slice, run_underlying hu, hr, ok.size]
  · -- an array behind a pointer
    rename_i n e b off hk
    have hu := hT.array ht hk
    simp only [VR] at hx
    subst hx
    split at h
    case h_2 => cases h
    rename_i z y hz hb
    have ok := hT.ok hz
    split at h
    case h_2 => cases h
    rename_i hh hhi
    split at h
    case h_2 => cases h
    rename_i l hlo
    split at h
    case isFalse => cases h
    rename_i hc
    cases h
    obtain ⟨hr, hl1, hl2⟩ := bounds_ok (P := P) (w := w) (isS := false) hhi hlo h1 h1' h2 h2' (Nat.le_refl n)
    obtain ⟨c, ce, fz, g1, g2, g3, g4, g5⟩ := hI.r b y hb
    have hx0 := g5.1 hc.1
    refine ⟨.slice (some ⟨(φ b).blk, (φ b).base + off + l * z.size, none⟩) (hh - l) (n - l), ?_, ?_, hs⟩
    · have hne : n ≠ l := by omega
      simp [Instr.sliceAt, Instr.sureAddr, run_underlying hu, hr, ok.size, addr_add, hne]
    · simp only [VR]
      rw [hx0, Nat.add_assoc, Nat.add_zero]
  · cases h


/-! ### Conversions -/
theorem bytesOf_spec : ∀ (cs : List AV) (l : List UInt8), bytesOf cs = some l → ∃ ns : List Int, cs = ns.map (AV.int .u8) ∧ l = ns.map fun n => UInt8.ofNat n.toNat
  | [], l, h => by simp [bytesOf] at h; subst h; exact ⟨[], rfl, rfl⟩
  | c :: r, l, h => by
    unfold bytesOf at h
    split at h
    · rename_i heq; cases heq
    · rename_i n r' heq
      cases heq
      split at h
      case h_2 => cases h
      rename_i l' hl
      cases h
      obtain ⟨ns, h1, h2⟩ := bytesOf_spec _ _ hl
      exact ⟨n :: ns, by simp [h1], by simp [h2]⟩
    · cases h

theorem foldl_push_bytes : ∀ (ns : List Int) (r : ByteArray), ns.foldl (fun r n => r.push (UInt8.ofNat n.toNat)) r = ⟨⟨r.data.toList ++ ns.map fun n => UInt8.ofNat n.toNat⟩⟩
  | [], r => by simp
  | n :: ns, r => by
    simp only [List.foldl_cons]
    rw [foldl_push_bytes ns]
    simp [ByteArray.push]

theorem VRs_ints : ∀ (ns : List Int) (us : List Value), us.length = ns.length → VRs Z φ (ns.map (AV.int .u8)) us → us = ns.map (Value.int .u8)
  | [], [], _, _ => rfl
  | [], _ :: _, h, _ => by simp at h
  | _ :: _, [], h, _ => by simp at h
  | n :: ns, u :: us, h, hv => by
    simp only [List.map_cons, VRs, VR] at hv
    obtain ⟨rfl, hv⟩ := hv
    rw [VRs_ints ns us (by simpa using h) hv]
    rfl

theorem slice_shape {x : AV} {u : Value} {n : Nat} (hn : lenA x = some n) (hns : ∀ s, x = .str s → False) (hx : VR Z φ x u) : ∃ a c, u = .slice a n c := by
  cases x <;> simp only [lenA] at hn <;> first | (cases hn; done) | (exact (hns _ rfl).elim) | skip
  · simp only [VR] at hx; cases hn
    rcases hx with ⟨h0, _, a, acap, rfl⟩ | ⟨_, _, _, _, _, _, rfl, _⟩
    · subst h0; exact ⟨_, _, rfl⟩
    · exact ⟨_, _, rfl⟩
  · simp only [VR] at hx; cases hn; exact ⟨_, _, hx⟩
  · simp only [VR] at hx; cases hn; exact ⟨_, _, hx⟩

theorem conv_ok (hT : TyT P T) (hI : Inv Z φ σ w) {src dst : TypeId} {x v : AV} {u : Value} (h : convA T σ src dst x = some (v, σ')) (hx : VR Z φ x u) (hs : Sc σ.n x) :
    ∃ φ' w' r, (convert src dst u).run P w = .ok r w' ∧ Good Z φ σ w v σ' Z φ' r w' := by
  unfold convA at h
  simp only [wrapA_eq] at h
  split at h
  case h_2 => cases h
  rename_i i j hi hj
  split at h
  · rename_i k1 k2 k n h1 h2
    simp only [VR] at hx
    subst hx
    cases h
    refine ⟨φ, w, _, ?_, Good.same hI rfl trivial⟩
    simp [convert, run_underlying (hT.int hi h1), run_underlying (hT.int hj h2), Conv.intToInt]
  · rename_i s h1 h2
    simp only [VR] at hx
    subst hx
    cases h
    refine ⟨φ, w, _, ?_, Good.same hI rfl trivial⟩
    simp [convert, run_underlying (hT.string hi h1), run_underlying (hT.string hj h2)]
  · rename_i e s h1 h2
    simp only [VR] at hx
    subst hx
    split at h
    case h_2 => cases h
    rename_i z hz
    split at h
    case h_2 => cases h
    rename_i hk
    cases h
    have hge := grownCap_ge w s.length 0 e
    have hsz : (⟨⟨s⟩⟩ : ByteArray).size = s.length := rfl
    have hrun := run_bytes_of_string w src dst e ⟨⟨s⟩⟩ (hT.string hi h1) (hT.slice hj h2) (hT.int hz hk)
    obtain ⟨k1, k2, _⟩ := intsOf_rel (Z := Z) (φ := φ) (n := σ.n) s
    have hbl : (bytesRow ⟨⟨s⟩⟩ (grownCap w s.length 0 e)).toList = (s.map fun b => Value.int .u8 b.toNat) ++ List.replicate (grownCap w s.length 0 e - s.length) (.int .u8 0) := by
      simp [bytesRow, hsz]
    have hbs : (bytesRow ⟨⟨s⟩⟩ (grownCap w s.length 0 e)).size = grownCap w s.length 0 e := by
      rw [← Array.length_toList, hbl]; simp; omega
    obtain ⟨g1, g2⟩ := alloc_ok hI.drew (x := ⟨intsOf s, 1, true⟩) (c := bytesRow ⟨⟨s⟩⟩ (grownCap w s.length 0 e)) (e := e) (fz := ((bytesRow ⟨⟨s⟩⟩ (grownCap w s.length 0 e)).size, (bytesRow ⟨⟨s⟩⟩ (grownCap w s.length 0 e)).size + 1))
      (extra := grownCap w s.length 0 e - s.length) (by rw [hbl]; exact VRs_more k1) (by show (intsOf s).length + (grownCap w s.length 0 e - s.length) * (1 % 7000000000) ≤ _; rw [show 1 % 7000000000 = 1 from rfl]; rw [hbs, intsOf_length]; omega) (by intro j hj; simp; omega) (fun h => by cases h) k2 (fun h => absurd h (by show ¬ _ ≤ 1; omega))
    refine ⟨_, _, _, hrun, ?_, ?_, g1, Ext.drew.trans g2⟩
    · show _ = Value.slice (some ⟨(upd φ σ.n _ σ.n).blk, (upd φ σ.n _ σ.n).base + 0, none⟩) s.length (s.length + (upd φ σ.n _ σ.n).extra)
      rw [upd_same]
      simp only [World.size_drew, hsz, Nat.add_zero]
      rw [show s.length + (grownCap w s.length 0 e - s.length) = grownCap w s.length 0 e by omega]
    · show σ.n < σ.n + 1; omega
  · rename_i e h1 h2
    split at h
    case h_2 => cases h
    rename_i z hz
    split at h
    case h_2 => cases h
    rename_i hk
    split at h
    case h_2 => cases h
    rename_i n hn
    split at h
    · cases h
    rename_i hns
    split at h
    case h_2 => cases h
    rename_i cs hcs
    split at h
    case h_2 => cases h
    rename_i l hl
    cases h
    obtain ⟨us, hf, hul, huv, hus⟩ := first_ok (P := P) hI hcs hx hs
    obtain ⟨ns, rfl, rfl⟩ := bytesOf_spec _ _ hl
    have hus' := VRs_ints ns us (by simpa using hul) huv
    have hcl := firstA_length hcs hn
    simp only [List.length_map, Nat.mul_one] at hcl
    refine ⟨φ, w, .string ⟨⟨ns.map fun n : Int => UInt8.ofNat n.toNat⟩⟩, ?_, Good.same hI rfl trivial⟩
    have hshape := slice_shape hn hns hx
    obtain ⟨a, c, rfl⟩ := hshape
    have hu := hf w rfl
    rw [run_convert_bytes_string w src dst e a n c (hT.slice hi h1) (hT.int hz hk) (hT.string hj h2)]
    cases a with
    | none =>
      simp only [Builtin.firstCells, Sem.run_pure] at hu
      have : us = [] := by
        have := congrArg (fun r => match r with | Result.ok (x : Array Value) _ => x.toList | _ => []) hu
        simpa using this.symm
      have hns0 : ns = [] := by
        rw [this] at hus'
        cases ns with
        | nil => rfl
        | cons _ _ => simp at hus'
      subst hns0
      rfl
    | some a =>
      simp only [Builtin.firstCells, Nat.mul_one] at hu
      rw [hus'] at hu
      rw [run_bytesToString w a n c ns hu, foldl_push_bytes]
      rfl
  · cases h

end Go.Abs
