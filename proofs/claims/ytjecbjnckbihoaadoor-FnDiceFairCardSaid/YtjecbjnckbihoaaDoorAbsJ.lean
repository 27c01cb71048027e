/- Each operation of the interpreter holds of the model's: all together. Nothing is claimed here; no condition. -/
import Derived.Test.YtjecbjnckbihoaaDoorAbsI
namespace Go.Abs
open Go

variable {P : Program} {T : Tab} {Z : Fz} {φ : Nat → Pl} {σ σ' : St} {w w' : World}

/-- What is known of the slots. -/
def ER (Z : Fz) (φ : Nat → Pl) (n : Nat) (env : Env) (tmps : Array Value) : Prop := ∀ t v, lk env t = some v → ∃ u, tmps[t]? = some u ∧ VR Z φ v u ∧ Sc n v

theorem evo_ok {n : Nat} {env : Env} {a : Act} (h : ER Z φ n env a.tmps) {x : Operand} {v : AV} (hv : evo env x = some v) : VR Z φ v (a.eval x) ∧ Sc n v := by
  cases x with
  | tmp t =>
    obtain ⟨u, h1, h2, h3⟩ := h t v hv
    have : a.eval (.tmp t) = u := by simp [Act.eval, h1]
    rw [this]
    exact ⟨h2, h3⟩
  | const c =>
    obtain ⟨h1, h2⟩ := ofConst_spec (Z := Z) (φ := φ) hv
    exact ⟨h1, Sc_mono (Nat.zero_le _) _ h2⟩
  | global g => cases hv
  | func f =>
    simp only [evo] at hv
    cases hv
    exact ⟨⟨[], [], rfl, rfl, trivial, rfl, trivial⟩, trivial, trivial⟩

theorem evos_ok {n : Nat} {env : Env} {a : Act} (h : ER Z φ n env a.tmps) : ∀ (xs : List Operand) (vs : List AV), evos env xs = some vs → VRs Z φ vs (xs.map a.eval) ∧ Scs n vs ∧ vs.length = xs.length
  | [], vs, hv => by simp [evos] at hv; subst hv; exact ⟨trivial, trivial, rfl⟩
  | x :: r, vs, hv => by
    simp only [evos] at hv
    split at hv
    case h_2 => cases hv
    rename_i v l h1 h2
    cases hv
    obtain ⟨a1, a2⟩ := evo_ok h h1
    obtain ⟨b1, b2, b3⟩ := evos_ok h r l h2
    exact ⟨⟨a1, b1⟩, ⟨a2, b2⟩, by simp [b3]⟩

theorem evPairs_ok {n : Nat} {env : Env} {a : Act} (h : ER Z φ n env a.tmps) : ∀ (xs : List (Nat × Operand)) (vs : List (Nat × AV)), evPairs env xs = some vs → PairsR Z φ n vs (xs.map fun p => (p.1, a.eval p.2))
  | [], vs, hv => by simp [evPairs] at hv; subst hv; exact .nil
  | (i, x) :: r, vs, hv => by
    simp only [evPairs] at hv
    split at hv
    case h_2 => cases hv
    rename_i v l h1 h2
    cases hv
    obtain ⟨a1, a2⟩ := evo_ok h h1
    exact .cons a1 a2 (evPairs_ok h r l h2)

theorem evOpt_ok {n : Nat} {env : Env} {a : Act} (h : ER Z φ n env a.tmps) {x : Option Operand} {v : Option AV} (hv : evOpt env x = some v) :
    (∀ y, v = some y → ∃ u, x.map a.eval = some u ∧ VR Z φ y u) ∧ (v = none → x.map a.eval = none) := by
  cases x with
  | none => simp only [evOpt] at hv; cases hv; exact ⟨(fun _ h => by cases h), fun _ => rfl⟩
  | some x =>
    simp only [evOpt] at hv
    split at hv
    case h_2 => cases hv
    rename_i y hy
    cases hv
    exact ⟨(fun z hz => by cases hz; exact ⟨_, rfl, (evo_ok h hy).1⟩), (fun h => by cases h)⟩

/-- What an operation of the model must do: it yields, or is without a result. -/
def Ran (P : Program) (o : Oper) (a : Act) (w : World) (u : Value) (w' : World) : Prop :=
  (execOp a.eval o).run P w = .ok (.value u) w' ∨ ((execOp a.eval o).run P w = .ok .skip w' ∧ u = undef)

theorem minmax_step (mx : Bool) (k : IntKind) : ∀ (l : List AV) (us : List Value) (x : Int) (v : AV), us.length = l.length → VRs Z φ l us → mmStep mx k x l = some v →
    ∃ z, v = .int k z ∧ (us.foldlM (if mx then Builtin.max2 else Builtin.min2) (.int k x) : Sem Value) = pure (.int k z)
  | [], [], x, v, _, _, h => by simp [mmStep] at h; subst h; exact ⟨x, rfl, rfl⟩
  | [], _ :: _, _, _, h, _, _ => by simp at h
  | _ :: _, [], _, _, h, _, _ => by simp at h
  | y :: l, u :: us, x, v, hl, hv, h => by
    cases y <;> simp only [mmStep] at h <;> first | (cases h; done) | skip
    rename_i k' y
    simp only [VRs, VR] at hv
    obtain ⟨rfl, hv⟩ := hv
    obtain ⟨z, h1, h2⟩ := minmax_step mx k l us _ v (by simpa using hl) hv h
    refine ⟨z, h1, ?_⟩
    rw [List.foldlM_cons]
    cases mx
    · simp only [Bool.false_eq_true, if_false] at h2 ⊢
      simp only [Builtin.min2, pure_bind]
      exact h2
    · simp only [if_true] at h2 ⊢
      simp only [Builtin.max2, pure_bind]
      exact h2

theorem minmax_ok {mx : Bool} {l : List AV} {us : List Value} {v : AV} (h : minmaxA mx l = some v) (hl : us.length = l.length) (hv : VRs Z φ l us) {ts : Array TypeId} {ty : TypeId} :
    ∃ u, ((if mx then Builtin.max_ ts ty ⟨us⟩ else Builtin.min_ ts ty ⟨us⟩) : Sem Value).run P w = .ok u w ∧ VR Z φ v u ∧ ∀ n, Sc n v := by
  unfold minmaxA at h
  split at h
  case h_2 => cases h
  rename_i k x r
  match us, hl, hv with
  | u :: us, hl, hv =>
    simp only [VRs, VR] at hv
    obtain ⟨rfl, hv⟩ := hv
    obtain ⟨z, rfl, hz⟩ := minmax_step mx k r us x v (by simpa using hl) hv h
    refine ⟨.int k z, ?_, rfl, fun _ => trivial⟩
    cases mx
    · simp only [Bool.false_eq_true, if_false] at hz ⊢
      simp [Builtin.min_, hz]
    · simp only [if_true] at hz ⊢
      simp [Builtin.max_, hz]

theorem valS_some {σ σ' : St} {x : Option AV} {v : AV} (h : valS σ x = some (.val v σ')) : x = some v ∧ σ' = σ := by
  cases x with
  | none => cases h
  | some y => simp only [valS] at h; cases h; exact ⟨rfl, rfl⟩
theorem val2_some {x : Option (AV × St)} {v : AV} {σ' : St} (h : val2 x = some (.val v σ')) : x = some (v, σ') := by
  cases x with
  | none => cases h
  | some y => obtain ⟨a, b⟩ := y; simp only [val2] at h; cases h; rfl
theorem valS_call {σ : St} {x : Option AV} {f : FuncId} {args : List AV} (h : valS σ x = some (.call f args)) : False := by
  cases x <;> cases h
theorem val2_call {x : Option (AV × St)} {f : FuncId} {args : List AV} (h : val2 x = some (.call f args)) : False := by
  cases x <;> cases h

/-- From a run of a value's making. -/
theorem Ran.value {o : Oper} {a : Act} {s : Sem Value} {u : Value} (he : execOp a.eval o = (do pure (.value (← s)))) (h : s.run P w = .ok u w') : Ran P o a w u w' := by
  left; rw [he]; simp [h]

theorem one_arg {x : AV} {l : List Operand} (h : [x].length = l.length) : ∃ X, l = [X] := by
  match l, h with
  | [X], _ => exact ⟨X, rfl⟩
theorem two_args {x y : AV} {l : List Operand} (h : [x, y].length = l.length) : ∃ X Y, l = [X, Y] := by
  match l, h with
  | [X, Y], _ => exact ⟨X, Y, rfl⟩

set_option maxHeartbeats 4000000 in
/-- An operation that yields. -/
theorem op_val0 (hT : TyT P T) (hI : Inv Z φ σ w) {env : Env} {a : Act} (hE : ER Z φ σ.n env a.tmps) {o : Oper} {v : AV} (h : opA T env σ o.op = some (.val v σ')) (hfz : isFz T o.op = false) :
    ∃ φ' w' u, Ran P o a w u w' ∧ Good Z φ σ w v σ' Z φ' u w' := by
  obtain ⟨dst, op, type, pos, after, guard⟩ := o
  have pure_case : ∀ {x : Option AV} {s : Sem Value}, valS σ x = some (.val v σ') → (∀ y, x = some y → ∃ u, s.run P w = .ok u w ∧ VR Z φ y u ∧ Sc σ.n y) →
      execOp a.eval ⟨dst, op, type, pos, after, guard⟩ = (do pure (.value (← s))) → ∃ φ' w' u, Ran P ⟨dst, op, type, pos, after, guard⟩ a w u w' ∧ Good Z φ σ w v σ' Z φ' u w' := by
    intro x s hx hs he
    obtain ⟨rfl, rfl⟩ := valS_some hx
    obtain ⟨u, h1, h2, h3⟩ := hs v rfl
    exact ⟨φ, w, u, Ran.value he h1, Good.same hI h2 h3⟩
  have two_case : ∀ {x : Option (AV × St)} {s : Sem Value}, val2 x = some (.val v σ') → (x = some (v, σ') → ∃ φ' w' u, s.run P w = .ok u w' ∧ Good Z φ σ w v σ' Z φ' u w') →
      execOp a.eval ⟨dst, op, type, pos, after, guard⟩ = (do pure (.value (← s))) → ∃ φ' w' u, Ran P ⟨dst, op, type, pos, after, guard⟩ a w u w' ∧ Good Z φ σ w v σ' Z φ' u w' := by
    intro x s hx hs he
    obtain ⟨φ', w', u, h1, h2⟩ := hs (val2_some hx)
    exact ⟨φ', w', u, Ran.value he h1, h2⟩
  cases op <;> simp only [opA] at h <;> first | (cases h; done) | skip
  case move x => exact pure_case (s := pure (a.eval x)) h (fun y hy => ⟨_, rfl, evo_ok hE hy⟩) rfl
  case assign x => exact pure_case (s := pure (a.eval x)) h (fun y hy => ⟨_, rfl, evo_ok hE hy⟩) rfl
  case pick c x y =>
    split at h
    · rename_i hc
      have hcv := (evo_ok hE hc).1
      simp only [VR] at hcv
      exact pure_case (s := pure (a.eval x)) h (fun z hz => ⟨_, rfl, evo_ok hE hz⟩) (by simp [execOp, hcv, asBool])
    · rename_i hc
      have hcv := (evo_ok hE hc).1
      simp only [VR] at hcv
      exact pure_case (s := pure (a.eval y)) h (fun z hz => ⟨_, rfl, evo_ok hE hz⟩) (by simp [execOp, hcv, asBool])
    · cases h
  case alloc e =>
    split at h
    case h_2 => cases h
    rename_i i hi
    cases h
    obtain ⟨φ', w', u, h1, h2⟩ := alloc_good hT hI hi
    exact ⟨φ', w', u, Ran.value rfl h1, h2⟩
  case box e x =>
    split at h
    case h_2 => cases h
    rename_i y i hy hi
    rw [show isI64 T e = false from hfz] at h
    simp only [cond_false] at h
    split at h
    case isFalse => cases h
    rename_i h1
    cases h
    obtain ⟨g1, g2⟩ := evo_ok hE hy
    obtain ⟨φ', w', u, k1, k2⟩ := box_good (P := P) (t := e) (n := i.size) hI (hT.ok hi).small h1 g1 g2
    exact ⟨φ', w', u, Ran.value rfl k1, k2⟩
  case build t ps =>
    split at h
    case h_2 => cases h
    rename_i l hl
    have hp := evPairs_ok hE _ _ hl
    exact pure_case (s := Instr.build t (ps.map fun (i, x) => (i, a.eval x))) h (fun y hy => by
      obtain ⟨u, k1, k2, k3⟩ := build_ok (w := w) hT hy hp
      refine ⟨u, ?_, k2, k3⟩
      rw [← k1]; congr 2
      apply Array.toList_inj.1; simp) rfl
  case buildSlice t n ps =>
    split at h
    case h_2 => cases h
    rename_i l hl
    have hp := evPairs_ok hE _ _ hl
    exact two_case (s := Instr.buildSlice t n (ps.map fun (i, x) => (i, a.eval x))) h (fun hy => by
      obtain ⟨φ', w', u, k1, k2⟩ := buildSlice_ok hT hI hy hp
      refine ⟨φ', w', u, ?_, k2⟩
      rw [← k1]; congr 2
      apply Array.toList_inj.1; simp) rfl
  case load t x =>
    split at h
    case h_2 => cases h
    rename_i p hp
    obtain ⟨g1, g2⟩ := evo_ok hE hp
    refine pure_case (s := Instr.loadAt t (a.eval x)) h (fun y hy => ?_) rfl
    cases hp : pureLd T t x with
    | true => rw [hp] at hy; exact load_ok hT hI (loadP_ok hy) g1 g2
    | false => rw [hp] at hy; exact load_ok hT hI hy g1 g2
  case store t x y =>
    split at h
    case h_2 => cases h
    rename_i p q hp hq
    split at h
    case h_2 => cases h
    rename_i σ₂ hst
    cases h
    obtain ⟨g1, g2⟩ := evo_ok hE hp
    obtain ⟨k1, k2⟩ := evo_ok hE hq
    obtain ⟨w', hr, r1, r2, _⟩ := store_ok (P := P) hT hI hst g1 k1 k2
    exact ⟨φ, w', undef, .inr ⟨by simp [execOp, hr], rfl⟩, trivial, trivial, r1, r2⟩
  case nilCheck x =>
    split at h
    · rename_i b o hx
      cases h
      obtain ⟨g1, g2⟩ := evo_ok hE hx
      simp only [VR] at g1
      exact ⟨φ, w, _, .inl (by simp only [execOp, g1]; rfl), Good.same hI rfl g2⟩
    · rename_i c o hx
      cases h
      obtain ⟨g1, g2⟩ := evo_ok hE hx
      have g1' := g1
      simp only [VR] at g1
      obtain ⟨B, ob, c', e, fz, he, r⟩ := g1
      exact ⟨φ, w, _, .inl (by simp only [execOp, he]; rfl), Good.same hI ⟨B, ob, c', e, fz, rfl, r⟩ g2⟩
    · rename_i f p q hx
      cases h
      obtain ⟨g1, g2⟩ := evo_ok hE hx
      simp only [VR] at g1
      obtain ⟨l, m, he, r⟩ := g1
      exact ⟨φ, w, _, .inl (by simp only [execOp, he]; rfl), Good.same hI ⟨l, m, rfl, r⟩ g2⟩
    · cases h
  case binOp op t x y ty =>
    split at h
    case h_2 => cases h
    rename_i p q hp hq
    obtain ⟨g1, g2⟩ := evo_ok hE hp
    obtain ⟨k1, k2⟩ := evo_ok hE hq
    exact pure_case (s := (do eqGuard op t x y (a.eval x) (a.eval y); binOp op t (a.eval x) (a.eval y))) h (fun z hz => by
      obtain ⟨u, r1, r2, r3⟩ := bin_ok (w := w) (X := x) (Y := y) hT hz g1 k1
      exact ⟨u, r1, r2, r3 _⟩) rfl
  case unOp op t x =>
    split at h
    case h_2 => cases h
    rename_i p hp
    obtain ⟨g1, g2⟩ := evo_ok hE hp
    exact pure_case (s := Op.unary op (a.eval x)) h (fun z hz => by
      obtain ⟨u, r1, r2, r3⟩ := un_ok (P := P) (w := w) hz g1
      exact ⟨u, r1, r2, r3 _⟩) rfl
  case convert src dt x =>
    split at h
    case h_2 => cases h
    rename_i p hp
    obtain ⟨g1, g2⟩ := evo_ok hE hp
    exact two_case (s := convert src dt (a.eval x)) h (fun hz => conv_ok hT hI hz g1 g2) rfl
  case makeFunc fn fi cap =>
    split at h
    case h_2 => cases h
    rename_i f p q hp hq
    cases h
    obtain ⟨g1, g2, g3⟩ := evos_ok hE _ _ hp
    obtain ⟨k1, k2, k3⟩ := evos_ok hE _ _ hq
    refine ⟨φ, w, .func (.func f) (fi.map a.eval) (cap.map a.eval), .inl rfl, Good.same hI ⟨(fi.map a.eval).toList, (cap.map a.eval).toList, rfl, by simpa using g3.symm, by simpa using g1, by simpa using k3.symm, by simpa using k1⟩ ⟨g2, k2⟩⟩
  case makeSlice t l c =>
    split at h
    case h_2 => cases h
    rename_i p q hp hq
    exact two_case (s := Instr.makeSlice t (a.eval l) (a.eval c)) h (fun hz => makeSlice_ok hT hI hz (evo_ok hE hp).1 (evo_ok hE hq).1) rfl
  case slice t x lo hi mx =>
    split at h
    case h_3 => cases h
    · rename_i p q r hp hq hr hm
      obtain ⟨g1, g2⟩ := evo_ok hE hp
      obtain ⟨l1, l2⟩ := evOpt_ok hE hq
      obtain ⟨m1, m2⟩ := evOpt_ok hE hr
      obtain ⟨_, k2⟩ := evOpt_ok hE hm
      have hmx : mx.map a.eval = none := k2 rfl
      exact pure_case (s := Instr.sliceAt t (a.eval x) (lo.map a.eval) (hi.map a.eval) (mx.map a.eval)) h (fun z hz => by rw [hmx]; exact slice_ok hT hI hz g1 g2 m1 m2 l1 l2) rfl
    · rename_i p q r m hp hq hr hm
      obtain ⟨g1, g2⟩ := evo_ok hE hp
      obtain ⟨l1, l2⟩ := evOpt_ok hE hq
      obtain ⟨m1, m2⟩ := evOpt_ok hE hr
      obtain ⟨k1, _⟩ := evOpt_ok hE hm
      obtain ⟨um, hum, hvm⟩ := k1 _ rfl
      exact pure_case (s := Instr.sliceAt t (a.eval x) (lo.map a.eval) (hi.map a.eval) (mx.map a.eval)) h (fun z hz => by rw [hum]; exact slice3_ok hT hz hI g1 g2 m1 l1 l2 hvm) rfl
  case fieldAddr t x f =>
    split at h
    case h_2 => cases h
    rename_i p hp
    obtain ⟨g1, g2⟩ := evo_ok hE hp
    exact pure_case (s := Instr.fieldAt t (a.eval x) f) h (fun z hz => fieldAddr_ok (σ := σ) hT hz g1 g2) rfl
  case field t x f =>
    split at h
    case h_2 => cases h
    rename_i p hp
    obtain ⟨g1, g2⟩ := evo_ok hE hp
    exact pure_case (s := Instr.field t (a.eval x) f) h (fun z hz => field_ok hT hz g1 g2) rfl
  case indexAddr t x i =>
    split at h
    case h_2 => cases h
    rename_i p q hp hq
    obtain ⟨g1, g2⟩ := evo_ok hE hp
    exact pure_case (s := Instr.indexAt t (a.eval x) (a.eval i)) h (fun z hz => indexAddr_ok hT hz g1 (evo_ok hE hq).1 g2) rfl
  case index t x i =>
    split at h
    case h_2 => cases h
    rename_i p q hp hq
    obtain ⟨g1, g2⟩ := evo_ok hE hp
    exact pure_case (s := Instr.index t (a.eval x) (a.eval i)) h (fun z hz => index_ok hT hz g1 (evo_ok hE hq).1 g2) rfl
  case extract x i =>
    split at h
    case h_2 => cases h
    rename_i vs hp
    obtain ⟨g1, g2⟩ := evo_ok hE hp
    simp only [VR] at g1
    obtain ⟨us, he, hl, hv⟩ := g1
    exact pure_case (s := Instr.extract (a.eval x) i) h (fun z hz => by
      obtain ⟨y, hy, hvy⟩ := VRs_get hv hz
      refine ⟨y, ?_, hvy, Scs_get g2 hz⟩
      have hy' : (⟨us⟩ : Array Value)[i]? = some y := by simpa using hy
      simp [Instr.extract, he, hy']) rfl
  case call c =>
    obtain ⟨callee, args, argTypes⟩ := c
    split at h
    · rename_i b as hcb has
      simp only at hcb has
      subst hcb
      obtain ⟨g1, g2, g3⟩ := evos_ok hE _ _ has
      have hexec : execOp a.eval ⟨dst, .call ⟨.builtin b, args, argTypes⟩, type, pos, after, guard⟩ = builtin b argTypes type (args.map fun | .const _ => true | _ => false) (args.map a.eval) := rfl
      have hmap : (args.map a.eval).toList = args.toList.map a.eval := by simp
      obtain ⟨ts⟩ := argTypes
      obtain ⟨as'⟩ := args
      simp only at g1 g3 has h
      unfold builtinA at h
      split at h
      · rename_i t x
        obtain ⟨X, rfl⟩ := one_arg g3
        · have hx := g1.1
          exact pure_case (s := Builtin.len_ #[t] type #[a.eval X]) h (fun z hz => by
            obtain ⟨u, r1, r2, r3⟩ := lenOp_ok (w := w) (ty := type) hT hz hx
            exact ⟨u, r1, r2, r3 _⟩) (by rw [hexec]; simp [builtin])
      · rename_i t x
        obtain ⟨X, rfl⟩ := one_arg g3
        · have hx := g1.1
          exact pure_case (s := Builtin.cap_ #[t] type #[a.eval X]) h (fun z hz => by
            obtain ⟨u, r1, r2, r3⟩ := capOp_ok (ty := type) hT hI hz hx
            exact ⟨u, r1, r2, r3 _⟩) (by rw [hexec]; simp [builtin])
      · rename_i st xt s x
        obtain ⟨S, X, rfl⟩ := two_args g3
        · exact two_case (s := Builtin.append_ #[st, xt] type #[a.eval S, a.eval X]) h (fun hz => append_ok hT hI hz g1.1 g2.1 g1.2.1 g2.2.1) (by rw [hexec]; simp [builtin])
      · rename_i dt xt d s
        obtain ⟨D, S, rfl⟩ := two_args g3
        · exact two_case (s := Builtin.copy_ #[dt, xt] type #[a.eval D, a.eval S]) h (fun hz => by
            obtain ⟨w', u, r1, r2⟩ := copy_ok (xt := xt) (ty := type) hT hI hz g1.1 g1.2.1 g2.2.1
            exact ⟨φ, w', u, r1, r2⟩) (by rw [hexec]; simp [builtin])
      · rename_i t x
        obtain ⟨X, rfl⟩ := one_arg g3
        · exact two_case (s := Builtin.clear_ #[t] type #[a.eval X]) h (fun hz => by
            obtain ⟨w', u, r1, r2⟩ := clear_ok (ty := type) hT hI hz g1.1
            exact ⟨φ, w', u, r1, r2⟩) (by rw [hexec]; simp [builtin])
      · exact pure_case (s := Builtin.min_ ⟨ts⟩ type ⟨as'.map a.eval⟩) h (fun z hz => by
          obtain ⟨u, r1, r2, r3⟩ := minmax_ok (P := P) (w := w) (ts := ⟨ts⟩) (ty := type) hz (by simpa using g3.symm) g1
          exact ⟨u, by simpa using r1, r2, r3 _⟩) (by rw [hexec]; simp [builtin])
      · exact pure_case (s := Builtin.max_ ⟨ts⟩ type ⟨as'.map a.eval⟩) h (fun z hz => by
          obtain ⟨u, r1, r2, r3⟩ := minmax_ok (P := P) (w := w) (ts := ⟨ts⟩) (ty := type) hz (by simpa using g3.symm) g1
          exact ⟨u, by simpa using r1, r2, r3 _⟩) (by rw [hexec]; simp [builtin])
      · cases h
    · split at h
      case h_2 => cases h
      rename_i g _
      unfold calleeA at h
      split at h <;> cases h
    · cases h

theorem op_val (hT : TyT P T) (hI : Inv Z φ σ w) {env : Env} {a : Act} (hE : ER Z φ σ.n env a.tmps) {o : Oper} {v : AV} (h : opA T env σ o.op = some (.val v σ')) :
    ∃ Z' φ' w' u, Ran P o a w u w' ∧ Good Z φ σ w v σ' Z' φ' u w' := by
  cases hfz : isFz T o.op with
  | false => exact ⟨Z, op_val0 hT hI hE h hfz⟩
  | true =>
    obtain ⟨dst, op, type, pos, after, guard⟩ := o
    cases op <;> first | (cases hfz; done) | skip
    rename_i e x
    simp only [opA] at h
    split at h
    case h_2 => cases h
    rename_i y i hy hi
    rw [show isI64 T e = true from hfz] at h
    simp only [cond_true] at h
    unfold boxP at h
    split at h
    case h_2 => cases h
    rename_i k n
    cases h
    obtain ⟨g1, g2⟩ := evo_ok hE hy
    simp only [VR] at g1
    obtain ⟨Z', w', u, k1, k2⟩ := box_fz (P := P) (t := e) (k := k) (n := n) hI
    refine ⟨Z', φ, w', u, Ran.value (s := Instr.box e (a.eval x)) rfl ?_, k2⟩
    rw [g1]; exact k1

end Go.Abs
