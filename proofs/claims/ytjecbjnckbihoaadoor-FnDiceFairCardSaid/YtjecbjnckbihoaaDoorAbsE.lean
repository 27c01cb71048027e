/- Each operation of the interpreter holds of the model's. Nothing is claimed here; no condition. -/
import Derived.Test.YtjecbjnckbihoaaDoorAbsD
namespace Go.Abs
open Go

variable {P : Program} {T : Tab} {Z : Fz} {φ : Nat → Pl} {σ σ' : St} {w w' : World}

/-- The table's types are the program's. -/
def TyT (P : Program) (T : Tab) : Prop := ∀ t i, T.ty t = some i → tyOf P t = some i

theorem TyT.ok (h : TyT P T) {t : TypeId} {i : TyI} (ht : T.ty t = some i) : TyOk P t i := .of (h t i ht)

theorem Good.same (hI : Inv Z φ σ w) {v : AV} {u : Value} (hv : VR Z φ v u) (hs : Sc σ.n v) : Good Z φ σ w v σ Z φ u w := ⟨hv, hs, hI, Ext.refl _ _ _ _⟩

theorem asVar_ok {agg : Bool} {cs : List AV} {v : AV} {us : List Value} {n : Nat} (h : asVar agg cs = some v) (hl : us.length = cs.length) (hv : VRs Z φ cs us) (hs : Scs n cs) :
    (agg = true ∧ VR Z φ v (.agg ⟨us⟩) ∧ Sc n v) ∨ (agg = false ∧ ∃ u, us = [u] ∧ VR Z φ v u ∧ Sc n v) := by
  unfold asVar at h
  cases agg
  · simp only [Bool.false_eq_true, if_false] at h
    split at h
    · rename_i x
      cases h
      match us, hl with
      | [u], _ => exact .inr ⟨rfl, u, rfl, hv.1, hs.1⟩
    · cases h
  · simp only [if_true] at h
    cases h
    exact .inl ⟨rfl, ⟨us, rfl, hl, hv⟩, hs⟩

theorem take_one {α : Type} {l : List α} {o : Nat} {x : α} (h : (l.drop o).take 1 = [x]) : l[o]? = some x := by
  have : ((l.drop o).take 1)[0]? = some x := by rw [h]; rfl
  simpa using this

theorem load_ok (hT : TyT P T) (hI : Inv Z φ σ w) {t : TypeId} {a v : AV} {ua : Value} (h : loadA T σ t a = some v) (ha : VR Z φ a ua) (hs : Sc σ.n a) :
    ∃ u, (Instr.loadAt t ua).run P w = .ok u w ∧ VR Z φ v u ∧ Sc σ.n v := by
  unfold loadA at h
  split at h
  · rename_i i ht
    split at h
    · rename_i cs hc
      obtain ⟨B, o, c, e, fz, rfl, h1, h2, h3, h4, h5⟩ := cellsAt_spec hI hc ha hs
      have ok := hT.ok ht
      rcases asVar_ok h (by simp; omega) h4 h5 with ⟨hagg, hv, hsv⟩ | ⟨hagg, u, hu, hv, hsv⟩
      · refine ⟨_, ?_, hv, hsv⟩
        simp [Instr.loadAt, Instr.sureAddr, loadVar, ok.agg, hagg, ok.size, run_loadCells_row h1 h2]
      · refine ⟨u, ?_, hv, hsv⟩
        have hone : i.size = 1 := by
          have := congrArg List.length hu
          simp at this; omega
        rw [hone] at hu
        have hcell : w.cell? ⟨B, o, none⟩ = some u := by
          simp only [World.cell?, h1, Option.isSome_none, Bool.false_eq_true, if_false]
          have := take_one hu
          simpa using this
        simp [Instr.loadAt, Instr.sureAddr, loadVar, ok.agg, hagg, hcell]
    · cases h
  · cases h

theorem putCells_eq (cs : List AV) (off : Nat) (new : List AV) : putCells cs off new = splice cs off new := rfl

theorem VRs_splice {xs new : List AV} {c : List Value} {base off : Nat} {vs : List Value} (h : VRs Z φ xs (c.drop base)) (hn : VRs Z φ new vs) (hl : vs.length = new.length) (hle : off + new.length ≤ xs.length) (hc : base + xs.length ≤ c.length) :
    VRs Z φ (putCells xs off new) ((splice c (base + off) vs).drop base) := by
  obtain ⟨h1, h2⟩ := VRs_iff.1 h
  obtain ⟨k1, k2⟩ := VRs_iff.1 hn
  rw [putCells_eq]
  refine VRs_iff.2 ⟨?_, fun i x y hx hy => ?_⟩
  · rw [splice_length hle, List.length_drop, splice_length (by omega)]; omega
  · rw [splice_get hle] at hx
    rw [List.getElem?_drop, splice_get (by omega)] at hy
    by_cases hi : off ≤ i ∧ i < off + new.length
    · rw [if_pos hi] at hx
      rw [if_pos (by omega), show base + i - (base + off) = i - off by omega] at hy
      exact k2 _ x y hx hy
    · rw [if_neg hi] at hx
      rw [if_neg (by omega)] at hy
      exact h2 i x y hx (by rw [List.getElem?_drop]; exact hy)

theorem Scs_splice {n : Nat} {xs new : List AV} {off : Nat} (h : Scs n xs) (k : Scs n new) : Scs n (putCells xs off new) :=
  Scs_append (Scs_append (Scs_take h _) k) (Scs_drop h _)

theorem storeCells_ok (hI : Inv Z φ σ w) {b off : Nat} {new : List AV} {vs : List Value} (h : storeCellsA σ b off new = some σ') (hv : VRs Z φ new vs) (hl : vs.length = new.length) (hs : Scs σ.n new) :
    ∃ w', (storeCells ⟨(φ b).blk, (φ b).base + off, none⟩ vs).run P w = .ok () w' ∧ Inv Z φ σ' w' ∧ Ext Z φ σ w Z φ σ' w' ∧ σ'.n = σ.n := by
  rw [storeCellsA_eq] at h
  split at h
  · rename_i x hb
    split at h
    · rename_i hcond
      cases h
      obtain ⟨c, e, fz, g1, g2, g3, g4, g5⟩ := hI.r b x hb
      have hc3 : (φ b).base + x.cells.length ≤ c.toList.length := by simp; omega
      obtain ⟨w', hr, hp⟩ := run_storeCells_put (P := P) (o := (φ b).base + off) (vs := vs) g1 (by omega) g4 (allOne_oneCell hcond.2 hl hv)
      have hreal : Real Z φ { x with cells := putCells x.cells off new } (φ b) w' := by
        refine ⟨_, e, fz, hp.here, VRs_splice g2 hv hl hcond.1 hc3, ?_, ?_, g5.1, fun h => ⟨(g5.2 h).1, (g5.2 h).2.1, fun h2 => by show (splice c.toList ((φ b).base + off) vs).length = 2; rw [splice_length (by omega)]; simpa using (g5.2 h).2.2 h2⟩⟩
        · show (φ b).base + (putCells x.cells off new).length + _ ≤ (splice c.toList _ vs).length
          rw [putCells_eq, splice_length hcond.1, splice_length (by omega)]
          simpa using g3
        · intro j hj
          have hj' : j < (splice c.toList ((φ b).base + off) vs).length := hj
          rw [splice_length (by omega)] at hj'
          exact g4 j (by simpa using hj')
      obtain ⟨k1, k2⟩ := set_ok hI hb hp hreal (Scs_splice (hI.sc b x hb).2 hs)
      exact ⟨w', hr, k1, k2, rfl⟩
    · cases h
  · cases h

theorem store_ok (hT : TyT P T) (hI : Inv Z φ σ w) {t : TypeId} {a v : AV} {ua uv : Value} (h : storeA T σ t a v = some σ') (ha : VR Z φ a ua) (hv : VR Z φ v uv) (hs : Sc σ.n v) :
    ∃ w', (Instr.storeAt t ua uv).run P w = .ok () w' ∧ Inv Z φ σ' w' ∧ Ext Z φ σ w Z φ σ' w' ∧ σ'.n = σ.n := by
  unfold storeA at h
  split at h
  · rename_i i b off ht
    split at h
    · rename_i hlen
      have ok := hT.ok ht
      have h1 : allOne v.cellsOf = true := by
        rw [storeCellsA_eq] at h
        split at h
        · split at h
          · rename_i hc; exact hc.2
          · cases h
        · cases h
      obtain ⟨c1, c2, c3⟩ := cells_rel h1 hv hs
      simp only [VR] at ha
      obtain ⟨w', hr, k⟩ := storeCells_ok (P := P) hI h c2 (by simpa using c1) c3
      refine ⟨w', ?_, k⟩
      subst ha
      simp only [Instr.storeAt, Instr.sureAddr, storeVar, pure_bind, Sem.run_bind, ok.size, Result.andThen_ok]
      rw [if_neg (by rw [c1, hlen]; simp)]
      exact hr
    · cases h
  · cases h

theorem tagOf_div (e : TypeId) {n : Nat} (hn : n < 7000000000) : tagOf e n / 7000000000 - 1 = e := by
  have h : (n + 7000000000 * (e + 1)) / 7000000000 - 1 = (e : Nat) := by omega
  exact h
theorem tagOf_mod (e : TypeId) {n : Nat} (hn : n < 7000000000) : tagOf e n % 7000000000 = n := by
  have h : (n + 7000000000 * ((e : Nat) + 1)) % 7000000000 = n := by omega
  exact h
theorem alloc_good (hT : TyT P T) (hI : Inv Z φ σ w) {t : TypeId} {i : TyI} (ht : T.ty t = some i) :
    ∃ φ' w' u, (Instr.alloc t true (.tuple #[])).run P w = .ok u w' ∧ Good Z φ σ w (.ptr σ.n 0) (σ.push ⟨i.zero, tagZ t i.zero i.size, false⟩) Z φ' u w' := by
  have ok := hT.ok ht
  obtain ⟨z, hz, hz1, hz2⟩ := ok.zero
  obtain ⟨c1, c2, _⟩ := ofConsts_spec (Z := Z) (φ := φ) _ _ hz2
  have hs := ok.small
  have hl := ok.zlen
  have htag : ∀ g : Nat, g = tagZ t i.zero i.size → 7000000000 ≤ g → t = g / 7000000000 - 1 ∧ (g % 7000000000 = 2 → z.cells.size = 2) := by
    intro g hg h
    unfold tagZ at hg
    split at hg
    · rename_i he
      rw [he] at hl
      have hl2 : 2 = i.size := hl
      exact ⟨by rw [hg]; exact (tagOf_div t (by decide)).symm, fun _ => by rw [hz1, ← hl2]⟩
    · omega
  obtain ⟨k1, k2⟩ := alloc_ok hI (x := ⟨i.zero, tagZ t i.zero i.size, false⟩) (c := z.cells) (e := t) (fz := (0, 0)) (extra := 0) c1 (by simp [ok.zlen, hz1]) (by intro j _; simp) (fun _ => rfl) (Scs_mono (Nat.zero_le _) _ c2) (htag _ rfl)
  refine ⟨_, _, .pointer (some ⟨w.heap.size, 0, none⟩), ?_, ?_, ?_, k1, k2⟩
  · simp [Instr.alloc, hz, newVar, newRow]
  · simp [VR, upd_same]
  · show σ.n < σ.n + 1; omega

theorem box_good (hI : Inv Z φ σ w) {t : TypeId} {n : Nat} (hn : n < 7000000000) {v : AV} {uv : Value} (h1 : allOne v.cellsOf = true) (hv : VR Z φ v uv) (hs : Sc σ.n v) :
    ∃ φ' w' u, (Instr.box t uv).run P w = .ok u w' ∧ Good Z φ σ w (.ptr σ.n 0) (σ.push ⟨v.cellsOf, n, false⟩) Z φ' u w' := by
  obtain ⟨c1, c2, c3⟩ := cells_rel h1 hv hs
  obtain ⟨k1, k2⟩ := alloc_ok hI (x := ⟨v.cellsOf, n, false⟩) (c := uv.cells) (e := t) (fz := (0, 0)) (extra := 0) c2 (by simp [c1]) (by intro j _; simp) (fun _ => rfl) c3 (fun h => absurd h (by show ¬ _ ≤ n; omega))
  refine ⟨_, _, .pointer (some ⟨w.heap.size, 0, none⟩), ?_, ?_, ?_, k1, k2⟩
  · simp [Instr.box, newVar, newRow]
  · simp [VR, upd_same]
  · show σ.n < σ.n + 1; omega

/-- A number's variable, frozen. -/
theorem box_fz (hI : Inv Z φ σ w) {t : TypeId} {k : IntKind} {n : Int} :
    ∃ Z' w' u, (Instr.box t (.int k n)).run P w = .ok u w' ∧ Good Z φ σ w (.lp [.int k n] 0) σ Z' φ u w' := by
  have hold : ∀ B, B < w.heap.size → (w.alloc (.cells #[.int k n] t (0, 0))).heap[B]? = w.heap[B]? := fun B hB => by
    show (w.heap.push _)[B]? = _
    rw [Array.getElem?_push, if_neg (by omega)]
  have hnew : (w.alloc (.cells #[.int k n] t (0, 0))).heap[w.heap.size]? = some (.cells #[.int k n] t (0, 0)) := by
    show (w.heap.push _)[_]? = _
    simp
  have h1 : Inv Z φ σ (w.alloc (.cells #[.int k n] t (0, 0))) := hI.world fun B hB => hold B (hB.elim hI.z_lt hI.fp_lt)
  have hzz : ∀ B o, Z B = some o → (if B = w.heap.size then some (.cells #[.int k n] t (0, 0)) else Z B) = some o := fun B o hB => by
    have := hI.z_lt (B := B) (by simp [hB])
    rw [if_neg (by omega)]; exact hB
  refine ⟨fun B => if B = w.heap.size then some (.cells #[.int k n] t (0, 0)) else Z B, w.alloc (.cells #[.int k n] t (0, 0)), .pointer (some ⟨w.heap.size, 0, none⟩), ?_, ?_, ?_, ⟨?_, ?_, ?_, h1.inj, h1.sc⟩, ?_⟩
  · simp [Instr.box, newVar, newRow, Value.cells]
  · simp only [VR]
    refine ⟨w.heap.size, 0, #[.int k n], t, (0, 0), rfl, if_pos rfl, by simp, ?_⟩
    simp [VRs, VR]
  · simp only [Sc]
    exact ⟨trivial, trivial⟩
  · intro B o hB
    by_cases e : B = w.heap.size
    · rw [if_pos e] at hB; rw [e, hnew]; exact hB
    · rw [if_neg e] at hB; exact h1.z B o hB
  · intro b x hb
    exact (h1.r b x hb).mono (n := σ.n) (fun _ _ => rfl) hzz (hI.sc b x hb).2
  · intro b x hb
    have := hI.lt hb
    show (if (φ b).blk = w.heap.size then _ else Z _) = none
    rw [if_neg (by omega)]; exact hI.nz b x hb
  · refine ⟨hzz, fun B hB => ?_, fun _ _ => rfl, Nat.le_refl _, by simp, fun B hB _ => hold B hB, fun _ h => .inr h, rfl, rfl, rfl⟩
    by_cases e : B = w.heap.size
    · right; left; omega
    · left
      have : (if B = w.heap.size then some (.cells #[.int k n] t (0, 0)) else Z B) ≠ none := hB
      rwa [if_neg e] at this
theorem loadP_ok {t : TypeId} {p v : AV} (h : loadP T t p = some v) : loadA T σ t p = some v := by
  unfold loadP at h
  split at h
  · unfold loadA at h ⊢
    cases hi : T.ty t with
    | none => rw [hi] at h; cases h
    | some i => rw [hi] at h; exact h
  · cases h

/-! ### Numbers, truth values, texts, nil -/
theorem bits_ok {op : BinOp} {k : IntKind} {x y : Int} {v : AV} (h : bitsA op k x y = some v) : ∃ u, (Op.intBits op k x y).run P w = .ok u w ∧ VR Z φ v u ∧ ∀ n, Sc n v := by
  unfold bitsA at h
  split at h
  case h_1 hs => obtain ⟨rfl, rfl, ha, hb⟩ := smallNat_spec hs; cases h; exact ⟨_, rfl, by simp only [VR]; rw [land_small k ha hb], fun _ => trivial⟩
  case h_2 hs => obtain ⟨rfl, rfl, ha, hb⟩ := smallNat_spec hs; cases h; exact ⟨_, rfl, by simp only [VR]; rw [lor_small k ha hb], fun _ => trivial⟩
  case h_3 hs => obtain ⟨rfl, rfl, ha, hb⟩ := smallNat_spec hs; cases h; exact ⟨_, rfl, by simp only [VR]; rw [xor_small k ha hb], fun _ => trivial⟩
  all_goals first | (cases h; done) | (cases h; exact ⟨_, rfl, rfl, fun _ => trivial⟩)

theorem binInt_ok {op : BinOp} {k : IntKind} {x y : Int} {t : TypeId} {v : AV} (hop : op ≠ .shl ∧ op ≠ .shr) (h : binInt op k x y = some v) :
    ∃ u, (binOp op t (.int k x) (.int k y)).run P w = .ok u w ∧ VR Z φ v u ∧ ∀ n, Sc n v := by
  cases op <;> simp only [binInt, wrapA_eq, bif_beq, ileb_not] at h <;> try simp only [ileb_eq, ieqb_eq] at h
  case shl => exact (hop.1 rfl).elim
  case shr => exact (hop.2 rfl).elim
  case quo =>
    split at h
    · cases h
    · rename_i h0; cases h; exact ⟨_, by simp [binOp_quo, Op.intDiv, h0], rfl, fun _ => trivial⟩
  case rem =>
    split at h
    · cases h
    · rename_i h0; cases h; exact ⟨_, by simp [binOp_rem, Op.intDiv, h0], rfl, fun _ => trivial⟩
  case and => rw [binOp_and]; exact bits_ok h
  case or => rw [binOp_or]; exact bits_ok h
  case xor => rw [binOp_xor]; exact bits_ok h
  case andNot => rw [binOp_andNot]; exact bits_ok h
  case add => cases h; exact ⟨_, by simp [binOp_add, Op.intArith], rfl, fun _ => trivial⟩
  case sub => cases h; exact ⟨_, by simp [binOp_sub, Op.intArith], rfl, fun _ => trivial⟩
  case mul => cases h; exact ⟨_, by simp [binOp_mul, Op.intArith], rfl, fun _ => trivial⟩
  case eql => cases h; exact ⟨_, by simp [binOp_eql], rfl, fun _ => trivial⟩
  case neq => cases h; exact ⟨_, by simp [binOp_neq, bne], rfl, fun _ => trivial⟩
  case lss => cases h; exact ⟨_, by simp [binOp_lss], rfl, fun _ => trivial⟩
  case leq => cases h; exact ⟨_, by simp [binOp_leq], rfl, fun _ => trivial⟩
  case gtr => cases h; exact ⟨_, by simp [binOp_gtr], rfl, fun _ => trivial⟩
  case geq => cases h; exact ⟨_, by simp [binOp_geq], rfl, fun _ => trivial⟩

theorem binStr_ok {op : BinOp} {x y : List UInt8} {t : TypeId} {v : AV} (h : binStr op x y = some v) :
    ∃ u, (binOp op t (.string ⟨⟨x⟩⟩) (.string ⟨⟨y⟩⟩)).run P w = .ok u w ∧ VR Z φ v u ∧ ∀ n, Sc n v := by
  have e1 : (⟨⟨x⟩⟩ : ByteArray).toList = x := ByteArray.toList_eq _
  have e2 : (⟨⟨y⟩⟩ : ByteArray).toList = y := ByteArray.toList_eq _
  have s1 : (⟨⟨x⟩⟩ : ByteArray).size = x.length := rfl
  have s2 : (⟨⟨y⟩⟩ : ByteArray).size = y.length := rfl
  cases op <;> simp only [binStr] at h
  case add =>
    split at h
    · rename_i hle
      cases h
      refine ⟨.string (⟨⟨x⟩⟩ ++ ⟨⟨y⟩⟩), ?_, ?_, fun _ => trivial⟩
      · have : ¬ (((x.length + y.length : Nat) : Int) > IntKind.i64.max) := by rw [IntKind.max_i64]; omega
        simp only [binOp, Op.stringOp, s1, s2]
        rw [if_neg this]; rfl
      · show Value.string _ = Value.string _
        congr 1
    · cases h
  all_goals first | (cases h; done) | (cases h; refine ⟨_, ?_, rfl, fun _ => trivial⟩; simp [binOp, Op.stringOp, e1, e2])

theorem binBool_ok (hT : TyT P T) {op : BinOp} {x y : Bool} {t : TypeId} {i : TyI} (ht : T.ty t = some i) (hk : i.k = .bool) {v : AV} (h : binBool op x y = some v) :
    ∃ u, (binOp op t (.bool x) (.bool y)).run P w = .ok u w ∧ VR Z φ v u ∧ ∀ n, Sc n v := by
  obtain ⟨info, d, z, h1, h2, h3, h4, h5, h6, _⟩ := tyOf_spec (hT _ _ ht)
  have hd : P.underlying t = some .bool := by rw [h2, kind_bool (d := d) (by rw [← h6]; exact hk)]
  cases op <;> simp only [binBool] at h <;> first | (cases h; done) | skip
  · cases h; exact ⟨_, run_eql_bool _ t x y hd, rfl, fun _ => trivial⟩
  · cases h; exact ⟨_, run_neq_bool _ t x y hd, rfl, fun _ => trivial⟩

end Go.Abs
