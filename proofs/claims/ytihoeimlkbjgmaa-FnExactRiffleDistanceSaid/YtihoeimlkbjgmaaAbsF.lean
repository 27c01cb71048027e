/- Each operation of the interpreter holds of the model's, second part. Nothing is claimed here; no condition. -/
import Derived.Test.YtihoeimlkbjgmaaAbsE
namespace Go.Abs
open Go

variable {P : Program} {T : Tab} {Z : Fz} {φ : Nat → Pl} {σ σ' : St} {w w' : World}

theorem equalIn_slice_nilR (d : Nat) {t e : TypeId} (h : P.underlying t = some (.slice e)) (a : Option Addr) (l c : Nat) : (Op.equalIn (d + 1) t (.slice a l c) (.slice none 0 0)).run P w = .ok a.isNone w := by
  cases a <;> simp [Op.equalIn, run_underlying h]
theorem equal_slice_nilR {t e : TypeId} (h : P.underlying t = some (.slice e)) (a : Option Addr) (l c : Nat) : (Op.equal t (.slice a l c) (.slice none 0 0)).run P w = .ok a.isNone w := equalIn_slice_nilR 9999 h a l c

theorem equalIn_slice_nilL (d : Nat) {t e : TypeId} (h : P.underlying t = some (.slice e)) (a : Option Addr) (l c : Nat) : (Op.equalIn (d + 1) t (.slice none 0 0) (.slice a l c)).run P w = .ok a.isNone w := by
  cases a <;> simp [Op.equalIn, run_underlying h]
theorem equal_slice_nilL {t e : TypeId} (h : P.underlying t = some (.slice e)) (a : Option Addr) (l c : Nat) : (Op.equal t (.slice none 0 0) (.slice a l c)).run P w = .ok a.isNone w := equalIn_slice_nilL 9999 h a l c

theorem equalIn_ptr_nilR (d : Nat) {t e : TypeId} (h : P.underlying t = some (.pointer e)) (a : Option Addr) : (Op.equalIn (d + 1) t (.pointer a) (.pointer none)).run P w = .ok a.isNone w := by
  cases a <;> simp [Op.equalIn, run_underlying h]
theorem equal_ptr_nilR {t e : TypeId} (h : P.underlying t = some (.pointer e)) (a : Option Addr) : (Op.equal t (.pointer a) (.pointer none)).run P w = .ok a.isNone w := equalIn_ptr_nilR 9999 h a

theorem equalIn_ptr_nilL (d : Nat) {t e : TypeId} (h : P.underlying t = some (.pointer e)) (a : Option Addr) : (Op.equalIn (d + 1) t (.pointer none) (.pointer a)).run P w = .ok a.isNone w := by
  cases a <;> simp [Op.equalIn, run_underlying h]
theorem equal_ptr_nilL {t e : TypeId} (h : P.underlying t = some (.pointer e)) (a : Option Addr) : (Op.equal t (.pointer none) (.pointer a)).run P w = .ok a.isNone w := equalIn_ptr_nilL 9999 h a

theorem equalIn_fn_nilR (d : Nat) {t : TypeId} {a b : Array TypeId} {c : Bool} (h : P.underlying t = some (.func a b c)) {f : Fn} {x y : Array Value} : (Op.equalIn (d + 1) t (.func f x y) .nilFunc).run P w = .ok false w := by
  simp [Op.equalIn, run_underlying h]
theorem equal_fn_nilR {t : TypeId} {a b : Array TypeId} {c : Bool} (h : P.underlying t = some (.func a b c)) {f : Fn} {x y : Array Value} : (Op.equal t (.func f x y) .nilFunc).run P w = .ok false w := equalIn_fn_nilR 9999 h

theorem equalIn_fn_nilL (d : Nat) {t : TypeId} {a b : Array TypeId} {c : Bool} (h : P.underlying t = some (.func a b c)) {f : Fn} {x y : Array Value} : (Op.equalIn (d + 1) t .nilFunc (.func f x y)).run P w = .ok false w := by
  simp [Op.equalIn, run_underlying h]
theorem equal_fn_nilL {t : TypeId} {a b : Array TypeId} {c : Bool} (h : P.underlying t = some (.func a b c)) {f : Fn} {x y : Array Value} : (Op.equal t .nilFunc (.func f x y)).run P w = .ok false w := equalIn_fn_nilL 9999 h

theorem equalIn_fn_nil (d : Nat) {t : TypeId} {a b : Array TypeId} {c : Bool} (h : P.underlying t = some (.func a b c)) : (Op.equalIn (d + 1) t .nilFunc .nilFunc).run P w = .ok true w := by
  simp [Op.equalIn, run_underlying h]
theorem equal_fn_nil {t : TypeId} {a b : Array TypeId} {c : Bool} (h : P.underlying t = some (.func a b c)) : (Op.equal t .nilFunc .nilFunc).run P w = .ok true w := equalIn_fn_nil 9999 h

/-- What is asked of two values that are compared by address. -/
structure Cmp (P : Program) (t : TypeId) (u v : Value) (b : Bool) : Prop where
  eq : ∀ w, (Op.equal t u v).run P w = .ok b w
  guard : ∀ op x y, eqGuard op t x y u v = pure ()
  eql : binOp .eql t u v = (do pure (.bool (← Op.equal t u v)))
  neq : binOp .neq t u v = (do pure (.bool (!(← Op.equal t u v))))

theorem eqNil_ok {t : TypeId} {d : TypeDesc} (hd : P.underlying t = some d) {x y : AV} {u v : Value} {b : Bool} (h : eqNil (kindOf d) x y = some b) (hx : VR Z φ x u) (hy : VR Z φ y v) : Cmp P t u v b := by
  unfold eqNil at h
  split at h <;> first | (cases h; done) | skip
  · rename_i e hk; cases h; simp only [VR] at hx hy; subst hx; subst hy
    exact ⟨fun w => equal_slice_nilR (hd.trans (by rw [kind_slice hk])) _ _ _, fun _ _ _ => eqGuard_at_slice .., rfl, rfl⟩
  · rename_i e _ _ _ _ hk; cases h; simp only [VR] at hx hy; subst hx; subst hy
    exact ⟨fun w => equal_slice_nilR (hd.trans (by rw [kind_slice hk])) _ _ _, fun _ _ _ => eqGuard_at_slice .., rfl, rfl⟩
  · rename_i e _ _ _ _ hk; cases h; simp only [VR] at hx hy; subst hx; subst hy
    exact ⟨fun w => equal_slice_nilL (hd.trans (by rw [kind_slice hk])) _ _ _, fun _ _ _ => eqGuard_at_slice .., rfl, rfl⟩
  · rename_i e _ _ hk; cases h; simp only [VR] at hx hy; subst hy
    rcases hx with ⟨h0, _⟩ | ⟨_, _, _, _, _, _, rfl, _⟩
    · cases h0
    · exact ⟨fun w => equal_slice_nilR (hd.trans (by rw [kind_slice hk])) _ _ _, fun _ _ _ => eqGuard_at_slice .., rfl, rfl⟩
  · rename_i e _ _ hk; cases h; simp only [VR] at hx hy; subst hx
    rcases hy with ⟨h0, _⟩ | ⟨_, _, _, _, _, _, rfl, _⟩
    · cases h0
    · exact ⟨fun w => equal_slice_nilL (hd.trans (by rw [kind_slice hk])) _ _ _, fun _ _ _ => eqGuard_at_slice .., rfl, rfl⟩
  · rename_i hk; cases h; simp only [VR] at hx hy; subst hx; subst hy
    obtain ⟨e, rfl⟩ := kind_pointer hk
    exact ⟨fun w => equal_ptr_nilR hd _, fun _ _ _ => eqGuard_at_pointer .., rfl, rfl⟩
  · rename_i hk; cases h; simp only [VR] at hx hy; subst hx; subst hy
    obtain ⟨e, rfl⟩ := kind_pointer hk
    exact ⟨fun w => equal_ptr_nilR hd _, fun _ _ _ => eqGuard_at_pointer .., rfl, rfl⟩
  · rename_i hk; cases h; simp only [VR] at hx hy; subst hx; subst hy
    obtain ⟨e, rfl⟩ := kind_pointer hk
    exact ⟨fun w => equal_ptr_nilL hd _, fun _ _ _ => eqGuard_at_pointer .., rfl, rfl⟩
  · rename_i hk; cases h; simp only [VR] at hx hy; subst hy
    obtain ⟨e, rfl⟩ := kind_pointer hk
    obtain ⟨_, _, _, _, _, rfl, _⟩ := hx
    exact ⟨fun w => equal_ptr_nilR hd _, fun _ _ _ => eqGuard_at_pointer .., rfl, rfl⟩
  · rename_i hk; cases h; simp only [VR] at hx hy; subst hx
    obtain ⟨e, rfl⟩ := kind_pointer hk
    obtain ⟨_, _, _, _, _, rfl, _⟩ := hy
    exact ⟨fun w => equal_ptr_nilL hd _, fun _ _ _ => eqGuard_at_pointer .., rfl, rfl⟩
  · rename_i hk; cases h; simp only [VR] at hx hy; subst hx; subst hy
    obtain ⟨a, b, c, rfl⟩ := kind_func hk
    exact ⟨fun w => equal_fn_nil hd, fun _ _ _ => eqGuard_at_nilFunc .., rfl, rfl⟩
  · rename_i hk; cases h; simp only [VR] at hx hy; subst hy
    obtain ⟨a, b, c, rfl⟩ := kind_func hk
    obtain ⟨_, _, rfl, _⟩ := hx
    exact ⟨fun w => equal_fn_nilR hd, fun _ _ _ => eqGuard_at_func .., rfl, rfl⟩
  · rename_i hk; cases h; simp only [VR] at hx hy; subst hx
    obtain ⟨a, b, c, rfl⟩ := kind_func hk
    obtain ⟨_, _, rfl, _⟩ := hy
    exact ⟨fun w => equal_fn_nilL hd, fun _ _ _ => eqGuard_at_nilFunc .., rfl, rfl⟩

/-- A binary operation. -/
theorem bin_ok (hT : TyT P T) {op : BinOp} {t : TypeId} {x y v : AV} {ux uy : Value} {X Y : Operand} (h : binA T op t x y = some v) (hx : VR Z φ x ux) (hy : VR Z φ y uy) :
    ∃ u, (do eqGuard op t X Y ux uy; binOp op t ux uy : Sem Value).run P w = .ok u w ∧ VR Z φ v u ∧ ∀ n, Sc n v := by
  unfold binA at h
  split at h
  · rename_i k a k' b
    simp only [VR] at hx hy; subst hx; subst hy
    rw [eqGuard_at_int, pure_bind]
    split at h
    · simp only [bif_ile, wrapA_eq, shlA_eq] at h
      split at h
      · rename_i h0; cases h; exact ⟨_, by simp [binOp_shl, Op.shift, Int.not_lt.2 h0], rfl, fun _ => trivial⟩
      · cases h
    · simp only [bif_ile, shrA_eq] at h
      split at h
      · rename_i h0; cases h; exact ⟨_, by simp [binOp_shr, Op.shift, Int.not_lt.2 h0], rfl, fun _ => trivial⟩
      · cases h
    · rename_i h1 h2
      split at h
      · rename_i hk; subst hk; exact binInt_ok ⟨h1, h2⟩ h
      · cases h
  · simp only [VR] at hx hy; subst hx; subst hy
    rw [eqGuard_at_string, pure_bind]
    exact binStr_ok h
  · simp only [VR] at hx hy; subst hx; subst hy
    rw [eqGuard_at_bool, pure_bind]
    split at h
    · rename_i i ht
      split at h
      · rename_i hk; exact binBool_ok hT ht hk h
      · cases h
    · cases h
  · split at h
    · rename_i i ht
      obtain ⟨info, d, z, h1, h2, h3, h4, h5, h6, _⟩ := tyOf_spec (hT _ _ ht)
      unfold binNil at h
      rw [h6] at h
      split at h
      · rename_i b hb
        cases h
        have c := eqNil_ok h2 hb hx hy
        refine ⟨_, ?_, rfl, fun _ => trivial⟩
        rw [c.guard, pure_bind, c.eql]
        simp [c.eq]
      · rename_i b hb
        cases h
        have c := eqNil_ok h2 hb hx hy
        refine ⟨_, ?_, rfl, fun _ => trivial⟩
        rw [c.guard, pure_bind, c.neq]
        simp [c.eq]
      · cases h
    · cases h

theorem un_ok {op : UnOp} {x v : AV} {u : Value} (h : unA op x = some v) (hx : VR Z φ x u) : ∃ r, (Op.unary op u).run P w = .ok r w ∧ VR Z φ v r ∧ ∀ n, Sc n v := by
  unfold unA at h
  simp only [wrapA_eq] at h
  split at h
  · simp only [VR] at hx; subst hx; cases h; exact ⟨_, by simp [Op.unary, Op.intArith], rfl, fun _ => trivial⟩
  · simp only [VR] at hx; subst hx; simp only [Op.unary]; exact bits_ok h
  · simp only [VR] at hx; subst hx; cases h; exact ⟨_, by simp [Op.unary], rfl, fun _ => trivial⟩
  · cases h

end Go.Abs
