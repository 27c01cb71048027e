/- Each operation of the interpreter holds of the model's, second part. Nothing is claimed here; no condition. -/
import Derived.Test.YtjecbjnckbihoaaDoorAbsE
import Derived.Laws.StructEq
namespace Go.Abs
open Go

variable {P : Program} {T : Tab} {Z : Fz} {φ : Nat → Pl} {σ σ' : St} {w w' : World}

theorem equalIn_slice_nilR (d : Nat) {t e : TypeId} (h : P.underlying t = some (.slice e)) (a : Option Addr) (l c : Nat) : (Op.equalIn (d + 1) t (.slice a l c) (.slice none 0 0)).run P w = .ok a.isNone w := by
  cases a <;> simp [Op.equalIn, run_underlying h]
theorem equal_slice_nilR {t e : TypeId} (h : P.underlying t = some (.slice e)) (a : Option Addr) (l c : Nat) : (Op.equal t (.slice a l c) (.slice none 0 0)).run P w = .ok a.isNone w := equalIn_slice_nilR 9999 h a l c

theorem equalIn_slice_nilL (d : Nat) {t e : TypeId} (h : P.underlying t = some (.slice e)) (a : Option Addr) (l c : Nat) : (Op.equalIn (d + 1) t (.slice none 0 0) (.slice a l c)).run P w = .ok a.isNone w := by
  cases a <;> simp [Op.equalIn, run_underlying h]
theorem equal_slice_nilL {t e : TypeId} (h : P.underlying t = some (.slice e)) (a : Option Addr) (l c : Nat) : (Op.equal t (.slice none 0 0) (.slice a l c)).run P w = .ok a.isNone w := equalIn_slice_nilL 9999 h a l c

theorem equalIn_ptr_nilR (d : Nat) {t e : TypeId} (h : P.underlying t = some (.pointer e)) (a : Option Addr) : (Op.equalIn (d + 1) t (.pointer a) (.pointer none)).run P w = .ok a.isNone w := by
  cases a <;> simp [Op.equalIn, run_underlying h]
theorem equal_ptr_nilR {t e : TypeId} (h : P.underlying t = some (.pointer e)) (a : Option Addr) : (Op.equal t (.pointer a) (.pointer none)).run P w = .ok a.isNone w := equalIn_ptr_nilR 9999 h a

theorem equalIn_ptr_nilL (d : Nat) {t e : TypeId} (h : P.underlying t = some (.pointer e)) (a : Option Addr) : (Op.equalIn (d + 1) t (.pointer none) (.pointer a)).run P w = .ok a.isNone w := by
  cases a <;> simp [Op.equalIn, run_underlying h]
theorem equal_ptr_nilL {t e : TypeId} (h : P.underlying t = some (.pointer e)) (a : Option Addr) : (Op.equal t (.pointer none) (.pointer a)).run P w = .ok a.isNone w := equalIn_ptr_nilL 9999 h a

theorem equalIn_fn_nilR (d : Nat) {t : TypeId} {a b : Array TypeId} {c : Bool} (h : P.underlying t = some (.func a b c)) {f : Fn} {x y : Array Value} : (Op.equalIn (d + 1) t (.func f x y) .nilFunc).run P w = .ok false w := by
  simp [Op.equalIn, run_underlying h]
theorem equal_fn_nilR {t : TypeId} {a b : Array TypeId} {c : Bool} (h : P.underlying t = some (.func a b c)) {f : Fn} {x y : Array Value} : (Op.equal t (.func f x y) .nilFunc).run P w = .ok false w := equalIn_fn_nilR 9999 h

theorem equalIn_fn_nilL (d : Nat) {t : TypeId} {a b : Array TypeId} {c : Bool} (h : P.underlying t = some (.func a b c)) {f : Fn} {x y : Array Value} : (Op.equalIn (d + 1) t .nilFunc (.func f x y)).run P w = .ok false w := by
  simp [Op.equalIn, run_underlying h]
theorem equal_fn_nilL {t : TypeId} {a b : Array TypeId} {c : Bool} (h : P.underlying t = some (.func a b c)) {f : Fn} {x y : Array Value} : (Op.equal t .nilFunc (.func f x y)).run P w = .ok false w := equalIn_fn_nilL 9999 h

theorem equalIn_fn_nil (d : Nat) {t : TypeId} {a b : Array TypeId} {c : Bool} (h : P.underlying t = some (.func a b c)) : (Op.equalIn (d + 1) t .nilFunc .nilFunc).run P w = .ok true w := by
  simp [Op.equalIn, run_underlying h]
theorem equal_fn_nil {t : TypeId} {a b : Array TypeId} {c : Bool} (h : P.underlying t = some (.func a b c)) : (Op.equal t .nilFunc .nilFunc).run P w = .ok true w := equalIn_fn_nil 9999 h

/-- What is asked of two values that are compared by address. -/
structure Cmp (P : Program) (t : TypeId) (u v : Value) (b : Bool) : Prop where
  eq : ∀ w, (Op.equal t u v).run P w = .ok b w
  guard : ∀ op x y, eqGuard op t x y u v = pure ()
  eql : binOp .eql t u v = (do pure (.bool (← Op.equal t u v)))
  neq : binOp .neq t u v = (do pure (.bool (!(← Op.equal t u v))))

theorem eqNil_ok {t : TypeId} {d : TypeDesc} (hd : P.underlying t = some d) {x y : AV} {u v : Value} {b : Bool} (h : eqNil (kindOf d) x y = some b) (hx : VR Z φ x u) (hy : VR Z φ y v) : Cmp P t u v b := by
  unfold eqNil at h
  split at h <;> first | (cases h; done) | skip
  · rename_i e hk; cases h; simp only [VR] at hx hy; subst hx; subst hy
    exact ⟨fun w => equal_slice_nilR (hd.trans (by rw [kind_slice hk])) _ _ _, fun _ _ _ => eqGuard_at_slice .., rfl, rfl⟩
  · rename_i e _ _ _ _ hk; cases h; simp only [VR] at hx hy; subst hx; subst hy
    exact ⟨fun w => equal_slice_nilR (hd.trans (by rw [kind_slice hk])) _ _ _, fun _ _ _ => eqGuard_at_slice .., rfl, rfl⟩
  · rename_i e _ _ _ _ hk; cases h; simp only [VR] at hx hy; subst hx; subst hy
    exact ⟨fun w => equal_slice_nilL (hd.trans (by rw [kind_slice hk])) _ _ _, fun _ _ _ => eqGuard_at_slice .., rfl, rfl⟩
  · rename_i e _ _ hk; cases h; simp only [VR] at hx hy; subst hy
    rcases hx with ⟨h0, _⟩ | ⟨_, _, _, _, _, _, rfl, _⟩
    · cases h0
    · exact ⟨fun w => equal_slice_nilR (hd.trans (by rw [kind_slice hk])) _ _ _, fun _ _ _ => eqGuard_at_slice .., rfl, rfl⟩
  · rename_i e _ _ hk; cases h; simp only [VR] at hx hy; subst hx
    rcases hy with ⟨h0, _⟩ | ⟨_, _, _, _, _, _, rfl, _⟩
    · cases h0
    · exact ⟨fun w => equal_slice_nilL (hd.trans (by rw [kind_slice hk])) _ _ _, fun _ _ _ => eqGuard_at_slice .., rfl, rfl⟩
  · rename_i hk; cases h; simp only [VR] at hx hy; subst hx; subst hy
    obtain ⟨e, rfl⟩ := kind_pointer hk
    exact ⟨fun w => equal_ptr_nilR hd _, fun _ _ _ => eqGuard_at_pointer .., rfl, rfl⟩
  · rename_i hk; cases h; simp only [VR] at hx hy; subst hx; subst hy
    obtain ⟨e, rfl⟩ := kind_pointer hk
    exact ⟨fun w => equal_ptr_nilR hd _, fun _ _ _ => eqGuard_at_pointer .., rfl, rfl⟩
  · rename_i hk; cases h; simp only [VR] at hx hy; subst hx; subst hy
    obtain ⟨e, rfl⟩ := kind_pointer hk
    exact ⟨fun w => equal_ptr_nilL hd _, fun _ _ _ => eqGuard_at_pointer .., rfl, rfl⟩
  · rename_i hk; cases h; simp only [VR] at hx hy; subst hy
    obtain ⟨e, rfl⟩ := kind_pointer hk
    obtain ⟨_, _, _, _, _, rfl, _⟩ := hx
    exact ⟨fun w => equal_ptr_nilR hd _, fun _ _ _ => eqGuard_at_pointer .., rfl, rfl⟩
  · rename_i hk; cases h; simp only [VR] at hx hy; subst hx
    obtain ⟨e, rfl⟩ := kind_pointer hk
    obtain ⟨_, _, _, _, _, rfl, _⟩ := hy
    exact ⟨fun w => equal_ptr_nilL hd _, fun _ _ _ => eqGuard_at_pointer .., rfl, rfl⟩
  · rename_i hk; cases h; simp only [VR] at hx hy; subst hx; subst hy
    obtain ⟨a, b, c, rfl⟩ := kind_func hk
    exact ⟨fun w => equal_fn_nil hd, fun _ _ _ => eqGuard_at_nilFunc .., rfl, rfl⟩
  · rename_i hk; cases h; simp only [VR] at hx hy; subst hy
    obtain ⟨a, b, c, rfl⟩ := kind_func hk
    obtain ⟨_, _, rfl, _⟩ := hx
    exact ⟨fun w => equal_fn_nilR hd, fun _ _ _ => eqGuard_at_func .., rfl, rfl⟩
  · rename_i hk; cases h; simp only [VR] at hx hy; subst hx
    obtain ⟨a, b, c, rfl⟩ := kind_func hk
    obtain ⟨_, _, rfl, _⟩ := hy
    exact ⟨fun w => equal_fn_nilL hd, fun _ _ _ => eqGuard_at_nilFunc .., rfl, rfl⟩

theorem part_int (hT : TyT P T) {t : TypeId} {i : TyI} {k0 k : IntKind} {a : Int} {us : Array Value} {o : Nat} {xs : List AV} (ht : T.ty t = some i) (hk : i.k = .int k0) (hx : VRs Z φ xs us.toList) (h : xs[o]? = some (.int k a)) (w : World) : (part t us o).run P w = .ok (.int k a) w := by
  obtain ⟨u, hu, hv⟩ := VRs_get hx h
  simp only [VR] at hv
  have ha := (hT.ok ht).agg w
  rw [hk] at ha
  rw [Array.getElem?_toList] at hu
  simp [part, ha, TK.isAgg, hu, hv]
theorem eqFs_ok (hT : TyT P T) {us vs : Array Value} {xs ys : List AV} (hx : VRs Z φ xs us.toList) (hy : VRs Z φ ys vs.toList) : ∀ (fs : List Field) (b : Bool), eqFs T (fs.map fun f => (f.type, f.offset)) xs ys = some b → (fs.all fun f => f.name != "_") = true → ∀ w, (Op.eqFields 9999 us vs fs).run P w = .ok b w := by
  intro fs
  induction fs with
  | nil => intro b h _ w; simp only [List.map_nil, eqFs] at h; cases h; simp [Op.eqFields]
  | cons f fs ih =>
    intro b h hn w
    simp only [List.map_cons, eqFs] at h
    rw [List.all_cons, Bool.and_eq_true] at hn
    split at h
    · rename_i i k a k' c d ht hxo hyo he
      split at h
      · rename_i k0 hk
        split at h
        · rename_i hkk
          subst hkk
          cases h
          obtain ⟨info, dd, z, h1, h2, h3, h4, h5, h6, _⟩ := tyOf_spec (hT _ _ ht)
          rw [hk] at h6
          have hd := kind_int h6.symm
          subst hd
          have hne : f.name ≠ "_" := by simpa using hn.1
          have e := run_equalIn_int (P := P) w 9998 f.type k k0 a c h2
          simp only [Op.eqFields, if_pos hne, Sem.run_bind, part_int hT ht hk hx hxo, part_int hT ht hk hy hyo, Result.andThen_ok, e]
          have hb : (a == c) = ieqb a c := by rw [ieqb_eq]
          rw [hb]
          cases hab : ieqb a c with
          | false => simp
          | true => simp [ih d he hn.2 w]
        · cases h
      · cases h
    · cases h
theorem eqStr_ok (hT : TyT P T) {op : BinOp} {t : TypeId} {i : TyI} (ht : T.ty t = some i) {x y v : AV} {ux uy : Value} {X Y : Operand} (h : eqStr T op i.k x y = some v) (hx : VR Z φ x ux) (hy : VR Z φ y uy) :
    ∃ u, (do eqGuard op t X Y ux uy; binOp op t ux uy : Sem Value).run P w = .ok u w ∧ VR Z φ v u ∧ ∀ n, Sc n v := by
  unfold eqStr at h
  split at h
  · rename_i fs xs ys hk
    obtain ⟨info, d, z, h1, h2, h3, h4, h5, h6, _, _, hf⟩ := tyOf_spec (hT _ _ ht)
    rw [hk] at h6
    obtain ⟨gs, rfl, rfl⟩ := kind_struct h6.symm
    simp only [eqFine, Bool.and_eq_true, Bool.not_eq_true'] at hf
    obtain ⟨hs, hg, hn⟩ := hf
    simp only [VR] at hx hy
    obtain ⟨us, rfl, _, hx⟩ := hx
    obtain ⟨vs, rfl, _, hy⟩ := hy
    have hfl : P.fieldsOf t = gs := by simp [Program.fieldsOf, h2]
    have run : ∀ b, eqFs T (gs.toList.map fun f => (f.type, f.offset)) xs ys = some b → ∀ w, (Op.equalIn 10000 t (.agg ⟨us⟩) (.agg ⟨vs⟩)).run P w = .ok b w := fun b hb w => by
      rw [show (10000 : Nat) = 9999 + 1 from rfl, run_equalIn_agg w 9999 t _ _ (by rw [hfl]; exact h2) hs, hfl]
      exact eqFs_ok (us := ⟨us⟩) (vs := ⟨vs⟩) hT hx hy gs.toList b hb hn w
    split at h
    · rename_i b hb
      cases h
      refine ⟨.bool b, ?_, rfl, fun _ => trivial⟩
      rw [Sem.run_bind, run_eqGuard_agg w _ _ _ _ _ _ hg, Result.andThen_ok, run_eql_struct, run b hb]; rfl
    · rename_i b hb
      cases h
      refine ⟨.bool (!b), ?_, rfl, fun _ => trivial⟩
      rw [Sem.run_bind, run_eqGuard_agg w _ _ _ _ _ _ hg, Result.andThen_ok, run_neq_struct, run b hb]; rfl
    · cases h
  · cases h

/-- A binary operation. -/
theorem bin_ok (hT : TyT P T) {op : BinOp} {t : TypeId} {x y v : AV} {ux uy : Value} {X Y : Operand} (h : binA T op t x y = some v) (hx : VR Z φ x ux) (hy : VR Z φ y uy) :
    ∃ u, (do eqGuard op t X Y ux uy; binOp op t ux uy : Sem Value).run P w = .ok u w ∧ VR Z φ v u ∧ ∀ n, Sc n v := by
  unfold binA at h
  split at h
  · rename_i k a k' b
    simp only [VR] at hx hy; subst hx; subst hy
    rw [eqGuard_at_int, pure_bind]
    split at h
    · simp only [bif_ile, wrapA_eq, shlA_eq] at h
      split at h
      · rename_i h0; cases h; exact ⟨_, by simp [binOp_shl, Op.shift, Int.not_lt.2 h0], rfl, fun _ => trivial⟩
      · cases h
    · simp only [bif_ile, shrA_eq] at h
      split at h
      · rename_i h0; cases h; exact ⟨_, by simp [binOp_shr, Op.shift, Int.not_lt.2 h0], rfl, fun _ => trivial⟩
      · cases h
    · rename_i h1 h2
      split at h
      · rename_i hk; subst hk; exact binInt_ok ⟨h1, h2⟩ h
      · cases h
  · simp only [VR] at hx hy; subst hx; subst hy
    rw [eqGuard_at_string, pure_bind]
    exact binStr_ok h
  · simp only [VR] at hx hy; subst hx; subst hy
    rw [eqGuard_at_bool, pure_bind]
    split at h
    · rename_i i ht
      split at h
      · rename_i hk; exact binBool_ok hT ht hk h
      · cases h
    · cases h
  · split at h
    · rename_i i ht
      obtain ⟨info, d, z, h1, h2, h3, h4, h5, h6, _⟩ := tyOf_spec (hT _ _ ht)
      split at h
      case h_2 => exact eqStr_ok hT ht h hx hy
      rename_i v0 hv0
      cases h
      rename_i _
      have h := hv0
      unfold binNil at h
      rw [h6] at h
      split at h
      · rename_i b hb
        cases h
        have c := eqNil_ok h2 hb hx hy
        refine ⟨_, ?_, rfl, fun _ => trivial⟩
        rw [c.guard, pure_bind, c.eql]
        simp [c.eq]
      · rename_i b hb
        cases h
        have c := eqNil_ok h2 hb hx hy
        refine ⟨_, ?_, rfl, fun _ => trivial⟩
        rw [c.guard, pure_bind, c.neq]
        simp [c.eq]
      · cases h
    · cases h

theorem un_ok {op : UnOp} {x v : AV} {u : Value} (h : unA op x = some v) (hx : VR Z φ x u) : ∃ r, (Op.unary op u).run P w = .ok r w ∧ VR Z φ v r ∧ ∀ n, Sc n v := by
  unfold unA at h
  simp only [wrapA_eq] at h
  split at h
  · simp only [VR] at hx; subst hx; cases h; exact ⟨_, by simp [Op.unary, Op.intArith], rfl, fun _ => trivial⟩
  · simp only [VR] at hx; subst hx; simp only [Op.unary]; exact bits_ok h
  · simp only [VR] at hx; subst hx; cases h; exact ⟨_, by simp [Op.unary], rfl, fun _ => trivial⟩
  · cases h

end Go.Abs
