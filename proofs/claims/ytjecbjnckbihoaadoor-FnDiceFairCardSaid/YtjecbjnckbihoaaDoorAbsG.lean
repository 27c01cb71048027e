/- Each operation of the interpreter holds of the model's, third part: slices. Nothing is claimed here; no condition. -/
import Derived.Test.YtjecbjnckbihoaaDoorAbsF
namespace Go.Abs
open Go

variable {P : Program} {T : Tab} {Z : Fz} {φ : Nat → Pl} {σ σ' : St} {w w' : World}

theorem addr_add (B o n : Nat) : (⟨B, o, none⟩ : Addr).add n = ⟨B, o + n, none⟩ := by
  unfold Addr.add; split
  · rename_i h0; subst h0; rfl
  · rfl

theorem TyT.und (hT : TyT P T) {t : TypeId} {i : TyI} (ht : T.ty t = some i) : ∃ d, P.underlying t = some d ∧ i.k = kindOf d := by
  obtain ⟨info, d, z, h1, h2, h3, h4, h5, h6, _⟩ := tyOf_spec (hT _ _ ht)
  exact ⟨d, h2, h6⟩

theorem TyT.slice (hT : TyT P T) {t e : TypeId} {i : TyI} (ht : T.ty t = some i) (hk : i.k = .slice e) : P.underlying t = some (.slice e) := by
  obtain ⟨d, h1, h2⟩ := hT.und ht
  rw [h1, kind_slice (h2 ▸ hk : kindOf d = .slice e)]

theorem TyT.array (hT : TyT P T) {t e : TypeId} {n : Nat} {i : TyI} (ht : T.ty t = some i) (hk : i.k = .array n e) : P.underlying t = some (.array n e) := by
  obtain ⟨d, h1, h2⟩ := hT.und ht
  rw [h1, kind_array (h2 ▸ hk : kindOf d = .array n e)]

theorem TyT.string (hT : TyT P T) {t : TypeId} {i : TyI} (ht : T.ty t = some i) (hk : i.k = .string) : P.underlying t = some .string := by
  obtain ⟨d, h1, h2⟩ := hT.und ht
  rw [h1, kind_string (h2 ▸ hk : kindOf d = .string)]

theorem TyT.int (hT : TyT P T) {t : TypeId} {i : TyI} {k : IntKind} (ht : T.ty t = some i) (hk : i.k = .int k) : P.underlying t = some (.int k) := by
  obtain ⟨d, h1, h2⟩ := hT.und ht
  rw [h1, kind_int (h2 ▸ hk : kindOf d = .int k)]

theorem TyT.struct (hT : TyT P T) {t : TypeId} {i : TyI} {fs : List (TypeId × Nat)} (ht : T.ty t = some i) (hk : i.k = .struct fs) : ∃ gs : Array Field, P.underlying t = some (.struct gs) ∧ fs = gs.toList.map fun f => (f.type, f.offset) := by
  obtain ⟨d, h1, h2⟩ := hT.und ht
  obtain ⟨gs, rfl, h3⟩ := kind_struct (h2 ▸ hk : kindOf d = .struct fs)
  exact ⟨gs, h1, h3⟩

theorem intsOf_length : ∀ l : List UInt8, (intsOf l).length = l.length
  | [] => rfl
  | _ :: r => by simp [intsOf, intsOf_length r]

theorem intsOf_rel {n : Nat} : ∀ l : List UInt8, VRs Z φ (intsOf l) (l.map fun b => Value.int .u8 b.toNat) ∧ Scs n (intsOf l) ∧ allOne (intsOf l) = true
  | [] => ⟨trivial, trivial, rfl⟩
  | b :: r => by
    obtain ⟨h1, h2, h3⟩ := intsOf_rel (n := n) r
    exact ⟨⟨rfl, h1⟩, ⟨trivial, h2⟩, by simpa [intsOf, allOne, AV.one] using h3⟩

theorem extract_str (s : List UInt8) (l h : Nat) : (⟨⟨s⟩⟩ : ByteArray).extract l h = ⟨⟨(s.take h).drop l⟩⟩ := by
  apply ByteArray.ext
  rw [ByteArray.data_extract]
  apply Array.toList_inj.1
  simp [List.extract_eq_take_drop, List.drop_take]

/-- The first cells of a slice or a text. -/
theorem first_ok (hI : Inv Z φ σ w) {x : AV} {ux : Value} {esz n : Nat} {cs : List AV} (h : firstA σ esz n x = some cs) (hx : VR Z φ x ux) (hs : Sc σ.n x) :
    ∃ us : List Value, (∀ w2 : World, w2.heap = w.heap → (Builtin.firstCells esz n ux).run P w2 = .ok ⟨us⟩ w2) ∧ us.length = cs.length ∧ VRs Z φ cs us ∧ Scs σ.n cs := by
  unfold firstA at h
  split at h
  · rename_i b off _ _
    split at h
    · rename_i y hb
      obtain ⟨h1, h2, h3⟩ := getCells_spec h
      simp only [VR] at hx
      subst hx
      obtain ⟨c, e, fz, g1, g2, g3, g4, g5⟩ := hI.r b y hb
      refine ⟨(c.toList.drop ((φ b).base + off)).take (n * esz), ?_, by simp; omega, ?_, ?_⟩
      · intro w2 hw2; simp only [Builtin.firstCells]; exact run_loadCells_row (by rw [hw2]; exact g1) (by omega)
      · rw [h2]
        have := VRs_take (VRs_drop g2 off) (n * esz)
        rwa [List.drop_drop] at this
      · rw [h2]; exact Scs_take (Scs_drop (hI.sc b y hb).2 _) _
    · cases h
  · rename_i len ds
    obtain ⟨h1, h2, h3⟩ := getCells_spec h
    simp only [VR] at hx
    rcases hx with ⟨h0, rfl, a, acap, rfl⟩ | ⟨B, o, cap, c, e, fz, rfl, hle, hZ, hc, hv⟩
    · simp at h1 h2
      subst h2
      have hn0 : n * esz = 0 := by simpa using h1
      exact ⟨[], fun w2 _ => by cases a <;> simp [Builtin.firstCells, loadCells, loadCellsFrom, hn0], by simp, trivial, trivial⟩
    · refine ⟨(c.toList.drop o).take (n * esz), ?_, by simp; omega, ?_, ?_⟩
      · intro w2 hw2; simp only [Builtin.firstCells]; exact run_loadCells_row (by rw [hw2]; exact hI.z B _ hZ) (by omega)
      · rw [h2]; simpa using VRs_take hv (n * esz)
      · rw [h2]; exact Scs_take (Scs_drop (Scs_mono (Nat.zero_le _) _ hs) _) _
  · simp only [VR] at hx; subst hx
    split at h
    · cases h; exact ⟨[], fun w2 _ => by simp [Builtin.firstCells], rfl, trivial, trivial⟩
    · cases h
  · rename_i s
    simp only [VR] at hx; subst hx
    split at h
    case isFalse => cases h
    cases h
    obtain ⟨k1, k2, _⟩ := intsOf_rel (Z := Z) (φ := φ) (n := σ.n) (s.take n)
    refine ⟨(s.take n).map fun b => Value.int .u8 b.toNat, ?_, by simp [intsOf_length], k1, k2⟩
    intro w2 _
    simp only [Builtin.firstCells, extract_str]
    simp
  · cases h

theorem len_ok {x : AV} {ux : Value} {n : Nat} (h : lenA x = some n) (hx : VR Z φ x ux) : (Builtin.lenOf ux).run P w = .ok n w := by
  cases x <;> simp only [lenA] at h <;> first | (cases h; done) | skip
  · simp only [VR] at hx; subst hx; cases h; rfl
  · simp only [VR] at hx; cases h
    rcases hx with ⟨h0, rfl, a, acap, rfl⟩ | ⟨B, o, cap, c, e, fz, rfl, _⟩
    · subst h0; rfl
    · rfl
  · simp only [VR] at hx; subst hx; cases h; rfl
  · simp only [VR] at hx; subst hx; cases h; rfl



section
variable {st xt ty e : TypeId} {dx : TypeDesc} {size m : Nat} {ux : Value} {vs : List Value}

theorem run_append_A (hst : P.underlying st = some (.slice e)) (hxt : P.underlying xt = some dx) (hno : ∀ k, dx ≠ .int k) (hsz : ∀ w, (sizeOf e).run P w = .ok size w)
    (hlen : (Builtin.lenOf ux).run P w = .ok m w) (hnew : (Builtin.firstCells size m ux).run P w = .ok ⟨vs⟩ w) (a : Addr) (sLen sCap : Nat) (hroom : sLen + m ≤ sCap) :
    (Builtin.append_ #[st, xt] ty #[.slice (some a) sLen sCap, ux]).run P w = ((storeCells (a.add (sLen * size)) vs).run P w).andThen fun _ w' => .ok (.slice (some a) (sLen + m) sCap) w' := by
  have h1 := fun w => run_underlying hst w
  have h2 := fun w => run_underlying hxt w
  unfold Builtin.append_
  cases dx
  case int k => exact (hno k rfl).elim
  all_goals
    simp only [List.getElem?_toArray, List.getElem?_cons_zero, List.getElem?_cons_succ]
    rw [Sem.run_bind, h1, Result.andThen_ok]
    dsimp only
    rw [Sem.run_bind, hsz, Result.andThen_ok, Sem.run_bind, h2, Result.andThen_ok, pure_bind, if_neg (fun hc => Bool.noConfusion hc), Sem.run_bind, hlen, Result.andThen_ok, if_pos hroom]
    rw [Sem.run_bind, if_pos (by rfl), hnew, Result.andThen_ok, Sem.run_bind]
    rfl

theorem run_append_A0 (hst : P.underlying st = some (.slice e)) (hxt : P.underlying xt = some dx) (hno : ∀ k, dx ≠ .int k) (hsz : ∀ w, (sizeOf e).run P w = .ok size w)
    (hlen : (Builtin.lenOf ux).run P w = .ok m w) (hnew : (Builtin.firstCells size m ux).run P w = .ok ⟨vs⟩ w) (sLen sCap : Nat) (hroom : sLen + m ≤ sCap) :
    (Builtin.append_ #[st, xt] ty #[.slice none sLen sCap, ux]).run P w = .ok (.slice none (sLen + m) sCap) w := by
  have h1 := fun w => run_underlying hst w
  have h2 := fun w => run_underlying hxt w
  unfold Builtin.append_
  cases dx
  case int k => exact (hno k rfl).elim
  all_goals
    simp only [List.getElem?_toArray, List.getElem?_cons_zero, List.getElem?_cons_succ]
    rw [Sem.run_bind, h1, Result.andThen_ok]
    dsimp only
    rw [Sem.run_bind, hsz, Result.andThen_ok, Sem.run_bind, h2, Result.andThen_ok, pure_bind, if_neg (fun hc => Bool.noConfusion hc), Sem.run_bind, hlen, Result.andThen_ok, if_pos hroom]
    rw [Sem.run_bind, if_pos (by rfl), hnew, Result.andThen_ok]
    rfl

theorem run_append_B (hst : P.underlying st = some (.slice e)) (hxt : P.underlying xt = some dx) (hno : ∀ k, dx ≠ .int k) (hsz : ∀ w, (sizeOf e).run P w = .ok size w)
    {info : TypeInfo} (hinfo : ∀ w, (typeInfo e).run P w = .ok info w) {z : Value} (hz : ∀ w, (zeroValue e).run P w = .ok z w)
    (hlen : (Builtin.lenOf ux).run P w = .ok m w) (hnew : (Builtin.firstCells size m ux).run P w.drew = .ok ⟨vs⟩ w.drew) (base : Option Addr) (sLen sCap : Nat) (hroom : ¬ sLen + m ≤ sCap)
    {old : List Value} (hold : (Builtin.firstCells size sLen (.slice base sLen sCap)).run P w.drew = .ok ⟨old⟩ w.drew) (hneed : sLen + m ≤ 4611686018427387904) (hb : Builtin.nextslicecap (sLen + m) sCap * info.bytes ≤ 281474976710656) :
    (Builtin.append_ #[st, xt] ty #[.slice base sLen sCap, ux]).run P w = .ok (.slice (some ⟨w.heap.size, 0, none⟩) (sLen + m) (grownCap w (sLen + m) sCap e))
      (w.drew.alloc (.cells (⟨old⟩ ++ ⟨vs⟩ ++ Builtin.zeroCells z.cells (grownCap w (sLen + m) sCap e - (sLen + m))) e)) := by
  have h1 := fun w => run_underlying hst w
  have h2 := fun w => run_underlying hxt w
  have g1 : ¬ (((sLen + m : Nat) : Int) > IntKind.i64.max) := by rw [IntKind.max_i64]; omega
  have g2 : ¬ (Builtin.nextslicecap (sLen + m) sCap * info.bytes > 2 ^ 48) := by omega
  unfold Builtin.append_
  cases dx
  case int k => exact (hno k rfl).elim
  all_goals
    simp only [List.getElem?_toArray, List.getElem?_cons_zero, List.getElem?_cons_succ]
    rw [Sem.run_bind, h1, Result.andThen_ok]
    dsimp only
    rw [Sem.run_bind, hsz, Result.andThen_ok, Sem.run_bind, h2, Result.andThen_ok, pure_bind, if_neg (fun hc => Bool.noConfusion hc), Sem.run_bind, hlen, Result.andThen_ok, if_neg hroom]
    rw [Sem.run_bind, hinfo, Result.andThen_ok, if_neg (fun h => g1 h.1), Sem.run_bind, hinfo, Result.andThen_ok, if_neg g2, Sem.run_bind, run_choose_drew, if_neg (by simp [Question.forced]), Result.andThen_ok]
    rw [Sem.run_bind, hinfo, Result.andThen_ok, Sem.run_bind, run_askRoom, Result.andThen_ok, Sem.run_bind, hold, Result.andThen_ok, Sem.run_bind, if_pos (by rfl), hnew, Result.andThen_ok, Sem.run_bind, hz, Result.andThen_ok]
    rw [Sem.run_bind]
    rfl
end

theorem growE_spec {z : TyI} {e : TypeId} {y : Blk} {off : Nat} (hs : z.size < 7000000000) : growE z e y off % 7000000000 = z.size ∧ (7000000000 ≤ growE z e y off → growE z e y off = tagOf e 1 ∧ z.size = 1 ∧ (y.opn = false ∨ (y.esz = tagOf e 1 ∧ off = 0))) := by
  unfold growE
  split
  · rename_i h1
    rw [h1]
    split
    · rename_i h; exact ⟨tagOf_mod e (by decide), fun _ => ⟨rfl, rfl, h⟩⟩
    · exact ⟨rfl, fun h => absurd h (by decide)⟩
  · exact ⟨Nat.mod_eq_of_lt hs, fun h => absurd h (by omega)⟩
theorem newE_spec {z : TyI} {e : TypeId} (hs : z.size < 7000000000) : newE z e % 7000000000 = z.size ∧ (7000000000 ≤ newE z e → newE z e = tagOf e 1 ∧ z.size = 1) := by
  unfold newE
  split
  · rename_i h1
    rw [h1]
    exact ⟨tagOf_mod e (by decide), fun _ => ⟨rfl, rfl⟩⟩
  · exact ⟨Nat.mod_eq_of_lt hs, fun h => absurd h (by omega)⟩
theorem firstA_length {esz n : Nat} {x : AV} {cs : List AV} (h : firstA σ esz n x = some cs) (hn : lenA x = some n) : cs.length = n * esz := by
  unfold firstA at h
  split at h
  · split at h
    · exact (getCells_spec h).2.2
    · cases h
  · exact (getCells_spec h).2.2
  · split at h
    · rename_i h0; cases h; simp [h0]
    · cases h
  · split at h
    · rename_i h1; cases h
      simp only [lenA, Option.some.injEq] at hn
      subst hn; subst h1
      simp [intsOf_length]
    · cases h
  · cases h

theorem del_ext (b : Nat) : Ext Z φ σ w Z φ (σ.del b) w :=
  ⟨fun _ _ h => h, fun _ h => .inl h, fun _ _ => rfl, Nat.le_refl _, Nat.le_refl _, fun _ _ _ => rfl, fun _ h => .inr (FP_del h), rfl, rfl, rfl⟩

/-- append: the second argument is a slice or a text. -/
theorem append_ok (hT : TyT P T) (hI : Inv Z φ σ w) {st xt ty : TypeId} {s x v : AV} {us ux : Value} (h : appendA T σ st xt s x = some (v, σ')) (hs : VR Z φ s us) (hss : Sc σ.n s) (hx : VR Z φ x ux) (hsx : Sc σ.n x) :
    ∃ φ' w' u, (Builtin.append_ #[st, xt] ty #[us, ux]).run P w = .ok u w' ∧ Good Z φ σ w v σ' Z φ' u w' := by
  unfold appendA at h
  split at h
  case h_2 => cases h
  rename_i i j hst hxt
  split at h
  case h_2 => cases h
  rename_i e hik
  split at h
  · cases h
  case h_3 => cases h
  rename_i z hz hj
  split at h
  case h_2 => cases h
  rename_i m hm
  split at h
  case h_2 => cases h
  rename_i new hnew
  split at h
  · cases h
  rename_i hone
  have hone' : allOne new = true := by simpa using hone
  have ok := hT.ok hz
  have hund := hT.slice hst hik
  obtain ⟨dx, hdx, hjx⟩ := hT.und hxt
  obtain ⟨tinfo, hti, htb⟩ := ok.info
  obtain ⟨zv, hzv, hzv1, hzv2⟩ := ok.zero
  have hnoint : ∀ k, dx ≠ .int k := fun k e => hj k (by rw [hjx, e]; rfl)
  obtain ⟨vs, hfirst0, hvl, hvr, hvs⟩ := first_ok (P := P) hI hnew hx hsx
  have hfirst := hfirst0 w rfl
  have hlen := len_ok (P := P) (w := w) hm hx
  have hnl := firstA_length hnew hm
  have hvl' : vs.length = m * z.size := by rw [hvl, hnl]
  split at h
  · -- a slice of the heap
    rename_i b off len cap
    simp only [VR] at hs
    subst hs
    split at h
    · -- there is room
      rename_i hroom
      split at h
      case h_2 => cases h
      rename_i σ₂ hst2
      cases h
      obtain ⟨w', hr, hI', hE, hn⟩ := storeCells_ok (P := P) hI hst2 hvr hvl hvs
      refine ⟨φ, w', .slice (some ⟨(φ b).blk, (φ b).base + off, none⟩) (len + m) (cap + (φ b).extra), ?_, rfl, ?_, hI', hE⟩
      · rw [run_append_A hund hdx hnoint ok.size hlen hfirst _ _ _ (by omega), addr_add, Nat.add_assoc, hr]
        rfl
      · show b < _; rw [hn]; exact hss
    · rename_i hnoroom
      split at h
      case h_2 => cases h
      rename_i y hb
      split at h
      case h_2 => cases h
      rename_i old hold
      split at h
      case isFalse => cases h
      rename_i hc
      obtain ⟨hc1, hc2, hc3, hc4, hc5⟩ := hc
      cases h
      obtain ⟨o1, o2, o3⟩ := getCells_spec hold
      obtain ⟨c, ce, fz, g1, g2, g3, g4, g5⟩ := hI.r b y hb
      have hsold : Scs σ.n (old ++ new) := Scs_append (by rw [o2]; exact Scs_take (Scs_drop (hI.sc b y hb).2 _) _) hvs
      by_cases hroom : len + m ≤ cap + (φ b).extra
      · -- the row itself has the room
        have hop : y.opn = true := by
          cases ho : y.opn with
          | true => rfl
          | false => have := g5.1 ho; omega
        have hmul : (len + m) * z.size ≤ (cap + (φ b).extra) * z.size := Nat.mul_le_mul_right _ hroom
        have e1 : (len + m) * z.size = len * z.size + m * z.size := Nat.add_mul ..
        have e2 : (cap + (φ b).extra) * z.size = cap * z.size + (φ b).extra * z.size := Nat.add_mul ..
        have e3 : (cap + (φ b).extra - (len + m)) * z.size = (cap + (φ b).extra) * z.size - (len + m) * z.size := Nat.sub_mul ..
        rw [hc3] at g3
        have hfit : (φ b).base + off + len * z.size + vs.length ≤ c.size := by omega
        obtain ⟨w', hr, hp⟩ := run_storeCells_put (P := P) (o := (φ b).base + off + len * z.size) (vs := vs) g1 hfit g4 (allOne_oneCell hone' hvl hvr)
        have hnotfp : ¬ FP (σ.del b) φ (φ b).blk := by
          rintro ⟨d, yd, hd, he⟩
          obtain ⟨hne, hd'⟩ := get_del_some hd
          exact hI.inj b d y yd hb hd' hne he.symm
        have hI2 : Inv Z φ (σ.del b) w' := (hI.del b).world fun B hB => hp.there B (fun e => by
          subst e
          rcases hB with hB | hB
          · exact hB (hI.nz b y hb)
          · exact hnotfp hB)
        have hcl : (splice c.toList ((φ b).base + off + len * z.size) vs).length = c.size := by rw [splice_length (by simpa using hfit)]; simp
        obtain ⟨hgm, hgt⟩ := growE_spec (z := z) (e := e) (y := y) (off := off) ok.small
        have hreal : Real Z φ ⟨old ++ new, growE z e y off, true⟩ ⟨(φ b).blk, (φ b).base + off, cap + (φ b).extra - (len + m)⟩ w' := by
          refine ⟨_, ce, fz, hp.here, ?_, ?_, ?_, (fun h => by cases h), fun h => ?_⟩
          · dsimp only
            obtain ⟨p1, p2⟩ := VRs_iff.1 g2
            obtain ⟨q1, q2⟩ := VRs_iff.1 hvr
            refine VRs_iff.2 ⟨?_, fun i x y' hx hy => ?_⟩
            · rw [List.length_drop, hcl, List.length_append, o3, hnl]; omega
            · rw [List.getElem?_drop, splice_get (by simpa using hfit)] at hy
              rw [List.getElem?_append, o3] at hx
              by_cases hi : i < len * z.size
              · rw [if_pos hi] at hx
                rw [if_neg (by omega)] at hy
                rw [o2, List.getElem?_take, if_pos hi, List.getElem?_drop] at hx
                exact p2 (off + i) x y' hx (by rw [List.getElem?_drop]; rw [← Nat.add_assoc]; exact hy)
              · rw [if_neg hi] at hx
                have hi2 : i - len * z.size < new.length := (List.getElem?_eq_some_iff.1 hx).1
                rw [if_pos (by omega), show (φ b).base + off + i - ((φ b).base + off + len * z.size) = i - len * z.size by omega] at hy
                exact q2 _ x y' hx hy
          · show (φ b).base + off + (old ++ new).length + (cap + (φ b).extra - (len + m)) * (growE z e y off % 7000000000) ≤ (splice _ _ _).length
            rw [hgm, hcl, List.length_append, o3, hnl]; omega
          · intro j hj
            exact g4 j (by have hj' : j < (splice c.toList ((φ b).base + off + len * z.size) vs).length := hj; rw [hcl] at hj'; exact hj')
          · obtain ⟨q1, q2, q3⟩ := hgt h
            rcases q3 with q3 | ⟨q3, q4⟩
            · rw [hop] at q3; cases q3
            · obtain ⟨r1, r2, _⟩ := g5.2 (by rw [q3]; unfold tagOf; omega)
              refine ⟨?_, ?_, fun h2 => ?_⟩
              · show ce = growE z e y off / 7000000000 - 1
                rw [q1, r1, q3]
              · show (φ b).base + off = 0
                rw [r2, q4]
              · exact absurd (show growE z e y off % 7000000000 = 2 from h2) (by rw [hgm, q2]; decide)
        have hI3 := hI2.push_at hreal (hI.nz b y hb) hnotfp hsold
        rw [if_pos hop]
        refine ⟨_, w', .slice (some ⟨(φ b).blk, (φ b).base + off, none⟩) (len + m) (cap + (φ b).extra), ?_, ?_, ?_, hI3, ?_⟩
        · rw [run_append_A hund hdx hnoint ok.size hlen hfirst _ _ _ hroom, addr_add, hr]
          rfl
        · show _ = Value.slice (some ⟨(upd φ σ.n _ σ.n).blk, (upd φ σ.n _ σ.n).base + 0, none⟩) (len + m) (len + m + (upd φ σ.n _ σ.n).extra)
          rw [upd_same]
          simp only [Nat.add_zero]
          rw [show len + m + (cap + (φ b).extra - (len + m)) = cap + (φ b).extra by omega]
        · show σ.n < σ.n + 1; omega
        · refine ⟨fun _ _ h => h, fun _ h => .inl h, fun d hd => upd_lt hd, by show σ.n ≤ σ.n + 1; omega, by rw [hp.size]; exact Nat.le_refl _, fun B _ hn => hp.there B (fun e => hn ⟨b, y, hb, e.symm⟩), fun B hB => .inr ?_, hp.os, hp.tape, hp.output⟩
          rcases FP_push (σ := σ.del b) (fun d yd hd => (hI.sc d yd (get_del_some hd).2).1) hB with rfl | hB
          · exact ⟨b, y, hb, rfl⟩
          · exact FP_del hB
      · -- a new row
        have hold2 : (Builtin.firstCells z.size len (.slice (some ⟨(φ b).blk, (φ b).base + off, none⟩) len (cap + (φ b).extra))).run P w.drew = .ok ⟨(c.toList.drop ((φ b).base + off)).take (len * z.size)⟩ w.drew := by
          simp only [Builtin.firstCells]; exact run_loadCells_row (w := w.drew) g1 (by omega)
        have hge := grownCap_ge w (len + m) (cap + (φ b).extra) e
        have hrun := run_append_B (ty := ty) hund hdx hnoint ok.size hti hzv hlen (w := w) (vs := vs) (hfirst0 _ rfl) (some ⟨(φ b).blk, (φ b).base + off, none⟩) len (cap + (φ b).extra) hroom hold2 hc2 (growslice_fits (by omega) (by rw [htb]; exact hc1))
        have hσ : Inv Z φ (if y.opn = true then σ.del b else σ) w.drew ∧ Ext Z φ σ w Z φ (if y.opn = true then σ.del b else σ) w.drew ∧ (if y.opn = true then σ.del b else σ).n = σ.n := by
          split
          · exact ⟨(hI.del b).drew, (del_ext b).trans Ext.drew, rfl⟩
          · exact ⟨hI.drew, Ext.drew, rfl⟩
        obtain ⟨s1, s2, s3⟩ := hσ
        have hvrs : VRs Z φ (old ++ new) ((c.toList.drop ((φ b).base + off)).take (len * z.size) ++ vs) := by
          refine VRs_append ?_ (by rw [o3]; simp; omega) hvr
          rw [o2]
          have := VRs_take (VRs_drop g2 off) (len * z.size)
          rwa [List.drop_drop] at this
        obtain ⟨hgm, hgt⟩ := growE_spec (z := z) (e := e) (y := y) (off := off) ok.small
        obtain ⟨k1, k2⟩ := alloc_ok s1 (x := ⟨old ++ new, growE z e y off, true⟩) (c := ⟨(c.toList.drop ((φ b).base + off)).take (len * z.size)⟩ ++ ⟨vs⟩ ++ Builtin.zeroCells zv.cells (grownCap w (len + m) (cap + (φ b).extra) e - (len + m))) (e := e) (fz := (0, 0))
          (extra := grownCap w (len + m) (cap + (φ b).extra) e - (len + m)) (by simpa using VRs_more hvrs) (by
            have e1 : (len + m) * z.size = len * z.size + m * z.size := Nat.add_mul ..
            simp only [Array.size_append, size_zeroCells, hzv1, List.length_append, o3, hnl, List.size_toArray, List.length_take, List.length_drop, Array.length_toList, hvl', hgm]
            omega) (by intro j _; simp) (fun h => by cases h) (by rw [s3]; exact hsold) (fun h => by
            obtain ⟨q1, q2, _⟩ := hgt h
            exact ⟨by show e = growE z e y off / 7000000000 - 1; rw [q1, tagOf_div e (by decide)], fun h2 => absurd (show growE z e y off % 7000000000 = 2 from h2) (by rw [hgm, q2]; decide)⟩)
        rw [s3] at k1 k2
        refine ⟨_, _, _, hrun, ?_, ?_, k1, s2.trans k2⟩
        · show _ = Value.slice (some ⟨(upd φ σ.n _ σ.n).blk, (upd φ σ.n _ σ.n).base + 0, none⟩) (len + m) (len + m + (upd φ σ.n _ σ.n).extra)
          rw [upd_same]
          simp only [World.size_drew, Nat.add_zero]
          rw [show len + m + (grownCap w (len + m) (cap + (φ b).extra) e - (len + m)) = grownCap w (len + m) (cap + (φ b).extra) e by omega]
        · show σ.n < (if y.opn = true then σ.del b else σ).n + 1; rw [s3]; omega
  · -- nil
    simp only [VR] at hs
    subst hs
    split at h
    · rename_i h0
      subst h0
      cases h
      refine ⟨φ, w, .slice none 0 0, ?_, rfl, trivial, hI, Ext.refl _ _ _ _⟩
      rw [run_append_A0 hund hdx hnoint ok.size hlen hfirst _ _ (by omega)]
    · rename_i h0
      split at h
      case isFalse => cases h
      rename_i hc
      obtain ⟨hc1, hc2, hc3⟩ := hc
      cases h
      have hge := grownCap_ge w (0 + m) 0 e
      have hrun := run_append_B (ty := ty) hund hdx hnoint ok.size hti hzv hlen (w := w) (vs := vs) (hfirst0 _ rfl) none 0 0 (by omega) (old := []) (by simp [Builtin.firstCells]) (by omega) (growslice_fits (by omega) (by rw [htb]; simpa using hc1))
      obtain ⟨hgm, hgt⟩ := newE_spec (z := z) (e := e) ok.small
      obtain ⟨k1, k2⟩ := alloc_ok hI.drew (x := ⟨new, newE z e, true⟩) (c := ⟨[]⟩ ++ ⟨vs⟩ ++ Builtin.zeroCells zv.cells (grownCap w (0 + m) 0 e - (0 + m))) (e := e) (fz := (0, 0))
        (extra := grownCap w (0 + m) 0 e - (0 + m)) (by simpa using VRs_more hvr) (by
          simp only [Array.size_append, size_zeroCells, hzv1, hnl, List.size_toArray, hvl', List.length_nil, hgm]
          omega) (by intro j _; simp) (fun h => by cases h) hvs (fun h => by
          obtain ⟨q1, q2⟩ := hgt h
          exact ⟨by show e = newE z e / 7000000000 - 1; rw [q1, tagOf_div e (by decide)], fun h2 => absurd (show newE z e % 7000000000 = 2 from h2) (by rw [hgm, q2]; decide)⟩)
      refine ⟨_, _, _, hrun, ?_, ?_, k1, Ext.drew.trans k2⟩
      · show _ = Value.slice (some ⟨(upd φ σ.n _ σ.n).blk, (upd φ σ.n _ σ.n).base + 0, none⟩) m (m + (upd φ σ.n _ σ.n).extra)
        rw [upd_same]
        simp only [World.size_drew, Nat.add_zero, Nat.zero_add]
        rw [show m + (grownCap w m 0 e - m) = grownCap w m 0 e by simp only [Nat.zero_add] at hge; omega]
      · show σ.n < σ.n + 1; omega
  · cases h

end Go.Abs
