/- Calls, regions in the order of the text, freezing: for the interpreter's soundness. Nothing is claimed here; no condition. -/
import Derived.Test.YtjecbjnckbihoaaDoorAbsJ
namespace Go.Abs
open Go

variable {P : Program} {T : Tab} {Z Zc : Fz} {φ : Nat → Pl} {σ σ' : St} {w w' : World}

/-- A call of a Go function. -/
theorem op_call {env : Env} {a : Act} (hE : ER Z φ σ.n env a.tmps) {o : Oper} {f : FuncId} {args : List AV} (h : opA T env σ o.op = some (.call f args)) :
    ∃ us : Array Value, (execOp a.eval o).run P w = (callFunc f us).run P w ∧ us.size = args.length ∧ VRs Z φ args us.toList ∧ Scs σ.n args := by
  obtain ⟨dst, op, type, pos, after, guard⟩ := o
  cases op <;> simp only [opA] at h <;> first | (cases h; done) | skip
  case box e x =>
    split at h
    case h_2 => cases h
    cases hz : isI64 T e with
    | true =>
      rw [hz] at h
      simp only [cond_true] at h
      unfold boxP at h
      split at h <;> cases h
    | false =>
      rw [hz] at h
      simp only [cond_false] at h
      split at h <;> cases h
  case call c =>
    obtain ⟨callee, as, argTypes⟩ := c
    split at h
    · rename_i b as' hcb has
      unfold builtinA at h
      split at h <;> first | (exact (valS_call h).elim) | (exact (val2_call h).elim) | (cases h)
    · rename_i f' as' hcb has
      simp only at hcb has
      subst hcb
      split at h
      case h_2 => cases h
      rename_i g hg
      unfold calleeA at h
      split at h
      case h_2 => cases h
      rename_i f0 first cap
      cases h
      obtain ⟨g1, g2⟩ := evo_ok hE hg
      simp only [VR, Sc] at g1 g2
      obtain ⟨x, y, he, l1, v1, l2, v2⟩ := g1
      obtain ⟨k1, k2, k3⟩ := evos_ok hE _ _ has
      refine ⟨⟨x⟩ ++ as.map a.eval ++ ⟨y⟩, ?_, by simp [l1, l2, k3], ?_, Scs_append (Scs_append g2.1 k2) g2.2⟩
      · simp [execOp, resolve, he, Deferred.ofValue, invoke]
      · simp only [Array.toList_append, Array.toList_map]
        exact VRs_append (VRs_append v1 l1 k1) (by simp [l1, k3]) v2
    · cases h
  case move x => exact (valS_call h).elim
  case assign x => exact (valS_call h).elim
  all_goals (repeat' (first | (exact (valS_call h).elim) | (exact (val2_call h).elim) | (cases h; done) | (split at h)))

/-- What the interpreter's calls owe. -/
def CallOK (P : Program) (call : FuncId → List AV → St → Option (AV × St)) : Prop :=
  ∀ f args σ v σ', call f args σ = some (v, σ') → ∀ Z φ w (us : Array Value), Inv Z φ σ w → VRs Z φ args us.toList → us.size = args.length → Scs σ.n args →
    (callFunc f us).run P w = .ok (.enter f us) w ∧ Calls P f us w fun e w' => ∃ Z' φ' u, e = .returned u ∧ Good Z φ σ w v σ' Z' φ' u w'

theorem lk_cons {t s : Nat} {v : AV} {env : Env} : lk ((t, v) :: env) s = if t = s then some v else lk env s := nif_eq _ _ _ _

theorem ER_put {Z' : Fz} {φ' : Nat → Pl} {env env' : Env} {tmps : Array Value} {nt : Nat} {dst : Option Nat} {v : AV} {u : Value} {dfs : List Deferred} (hE : ER Z φ σ.n env tmps) (hx : Ext Z φ σ w Z' φ' σ' w') (hv : VR Z' φ' v u) (hs : Sc σ'.n v) (hn : nt ≤ tmps.size) (h : putE nt dst v env = some env') :
    ER Z' φ' σ'.n env' ((⟨tmps, dfs⟩ : Act).put dst u).tmps ∧ ((⟨tmps, dfs⟩ : Act).put dst u).tmps.size = tmps.size := by
  have hold : ∀ t v, lk env t = some v → ∃ u, tmps[t]? = some u ∧ VR Z' φ' v u ∧ Sc σ'.n v := fun t v ht => by
    obtain ⟨u, h1, h2, h3⟩ := hE t v ht
    exact ⟨u, h1, hx.vr h3 h2, Sc_mono hx.nn _ h3⟩
  cases dst with
  | none => simp only [putE] at h; cases h; exact ⟨hold, rfl⟩
  | some t =>
    simp only [putE] at h
    split at h
    case isFalse => cases h
    rename_i hlt
    cases h
    refine ⟨fun s y hy => ?_, by simp [Act.put]⟩
    rw [lk_cons] at hy
    simp only [Act.put]
    split at hy
    · rename_i he; subst he; cases hy
      exact ⟨u, by rw [Array.getElem?_setIfInBounds]; simp; omega, hv, hs⟩
    · rename_i he
      obtain ⟨u', h1, h2⟩ := hold s y hy
      exact ⟨u', by rw [Array.getElem?_setIfInBounds_ne he]; exact h1, h2⟩

theorem wanted_ok {n : Nat} {env : Env} {tmps : Array Value} (hE : ER Z φ n env tmps) {all : Array Oper} {o : Oper} {b : Bool} (h : wantedA all o env = some b) : Region.wanted o (yielded all tmps) = b := by
  unfold wantedA at h
  unfold Region.wanted
  split at h
  · rename_i hg; rw [hg]; cases h; rfl
  · rename_i j want hg
    rw [hg]
    simp only []
    split at h
    case h_2 => cases h
    rename_i t ht
    split at h
    case h_3 => cases h
    · rename_i c hc
      obtain ⟨u, h1, h2, _⟩ := hE t _ hc
      simp only [VR] at h2
      subst h2
      have : yielded all tmps j = some c := by simp [yielded, ht, h1]
      rw [this]
      cases h
      rfl
    · rename_i hc
      obtain ⟨u, h1, h2, _⟩ := hE t _ hc
      simp only [VR] at h2
      obtain ⟨x, rfl, _⟩ := h2
      have : yielded all tmps j = none := by simp [yielded, ht, h1]
      rw [this]
      cases h
      rfl

theorem Act.put_defers' (a : Act) (d : Option Tmp) (v : Value) : (a.put d v).defers = a.defers := by cases d <;> rfl

/-- What a region owes. -/
def RegQ (Z : Fz) (φ : Nat → Pl) (σ : St) (w : World) (a : Act) (env' : Env) (σ' : St) : Exit → Act → World → Prop := fun e a' w' =>
  e = .normal ∧ ∃ Z' φ', ER Z' φ' σ'.n env' a'.tmps ∧ a'.defers = a.defers ∧ a'.tmps.size = a.tmps.size ∧ Inv Z' φ' σ' w' ∧ Ext Z φ σ w Z' φ' σ' w'

theorem RegQ.trans {Z' : Fz} {φ' : Nat → Pl} {σ'' : St} {a a' : Act} {env' : Env} (hx : Ext Z φ σ w Z' φ' σ' w') (hd : a'.defers = a.defers) (hs : a'.tmps.size = a.tmps.size) (e : Exit) (b : Act) (v : World)
    (h : RegQ Z' φ' σ' w' a' env' σ'' e b v) : RegQ Z φ σ w a env' σ'' e b v := by
  obtain ⟨h1, Z2, φ2, h2, h3, h4, h5, h6⟩ := h
  exact ⟨h1, Z2, φ2, h2, h3.trans hd, h4.trans hs, h5, hx.trans h6⟩

theorem wpList_mono {ops : Array Oper} {Q Q' : Exit → Act → World → Prop} (hq : ∀ e a w, Q e a w → Q' e a w) : ∀ (l : List Oper) (a : Act) (w : World), wpList P ops Q l a w → wpList P ops Q' l a w
  | [], a, w, h => hq _ _ _ h
  | o :: r, a, w, h => by
    unfold wpList at h ⊢
    split
    · rename_i hw
      rw [if_pos hw] at h
      rcases h with h | ⟨h1, a0, w0, h2⟩
      · left
        unfold Oper.wp at h ⊢
        generalize (execOp a.eval o).run P w = res at *
        cases res with
        | ok n w' =>
          cases n <;> simp only [Oper.upon] at h ⊢ <;>
            first
              | exact wpList_mono hq r _ _ h
              | exact Calls.mono h (fun e w'' he => by cases e <;> first | exact wpList_mono hq r _ _ he | exact hq _ _ _ he | (obtain ⟨a0, w0, h0⟩ := he; exact ⟨a0, w0, hq _ _ _ h0⟩))
              | exact Rows.mono h (fun _ _ he => wpList_mono hq r _ _ he)
        | halt x w' => cases x <;> simp only [Oper.upon] at h ⊢ <;> first | exact hq _ _ _ h | exact h
      · exact .inr ⟨h1, a0, w0, hq _ _ _ h2⟩
    · rename_i hw
      rw [if_neg hw] at h
      exact wpList_mono hq r _ _ h

/-- What one operation does, whatever comes behind it. -/
theorem opStep_wp (hT : TyT P T) {call : FuncId → List AV → St → Option (AV × St)} (hC : CallOK P call) {nt : Nat} {all : Array Oper} {o : Oper} {env : Env} {env1 : Env} {σ1 : St} {a : Act} {Q : Exit → Act → World → Prop} {K : Act → World → Prop}
    (h : opStep T call nt all o env σ = some (env1, σ1)) (hE : ER Z φ σ.n env a.tmps) (hI : Inv Z φ σ w)
    (hK : ∀ v u Z1 φ1 w1, putE nt o.dst v env = some env1 → VR Z1 φ1 v u → Sc σ1.n v → Inv Z1 φ1 σ1 w1 → Ext Z φ σ w Z1 φ1 σ1 w1 → K (a.put o.dst u) w1) :
    if Region.wanted o (yielded all a.tmps) = true then o.wp P a w K Q ∨ (o.asks P a w ∧ LetsOut Q) else K (a.put o.dst undef) w := by
  unfold opStep at h
  split at h
  · cases h
  · rename_i hw
    split at h
    case h_2 => cases h
    rename_i env2 hp
    cases h
    rw [if_neg (by rw [wanted_ok hE hw]; simp)]
    exact hK (.tup []) undef Z φ w hp ⟨[], rfl, rfl, trivial⟩ trivial hI (Ext.refl Z φ σ w)
  · rename_i hw
    rw [if_pos (wanted_ok hE hw)]
    left
    split at h
    · cases h
    · rename_i v σ2 hop
      split at h
      case h_2 => cases h
      rename_i env2 hp
      cases h
      obtain ⟨Z1, φ1, w1, u, hr, g1, g2, g3, g4⟩ := op_val hT hI hE hop
      have key := hK v u Z1 φ1 w1 hp g1 g2 g3 g4
      unfold Oper.wp
      rcases hr with hr | ⟨hr, rfl⟩
      · rw [hr]; exact key
      · rw [hr]; exact key
    · rename_i f args hop
      split at h
      · cases h
      rename_i v σ2 hcall
      split at h
      case h_2 => cases h
      rename_i env2 hp
      cases h
      obtain ⟨us, hr, hsz, hvr, hsc⟩ := op_call (P := P) (w := w) hE hop
      obtain ⟨hent, hcalls⟩ := hC f args σ v σ1 hcall Z φ w us hI hvr hsz hsc
      unfold Oper.wp
      rw [hr, hent]
      refine Calls.mono hcalls ?_
      rintro e w1 ⟨Z1, φ1, u, rfl, g1, g2, g3, g4⟩
      exact hK v u Z1 φ1 w1 hp g1 g2 g3 g4

/-- A region in the order of its text. -/
theorem runOps_ok (hT : TyT P T) {call : FuncId → List AV → St → Option (AV × St)} (hC : CallOK P call) {nt : Nat} {all : Array Oper} : ∀ (l : List Oper) (env : Env) (σ : St) (env' : Env) (σ' : St) (Z : Fz) (φ : Nat → Pl) (a : Act) (w : World),
    runOps T call nt all l env σ = some (env', σ') → ER Z φ σ.n env a.tmps → nt ≤ a.tmps.size → Inv Z φ σ w → wpList P all (RegQ Z φ σ w a env' σ') l a w
  | [], env, σ, env', σ', Z, φ, a, w, h, hE, hn, hI => by
    simp only [runOps] at h
    cases h
    exact ⟨rfl, Z, φ, hE, rfl, rfl, hI, Ext.refl _ _ _ _⟩
  | o :: r, env, σ, env', σ', Z, φ, a, w, h, hE, hn, hI => by
    simp only [runOps] at h
    split at h
    case h_2 => cases h
    rename_i env1 σ1 hs
    have := opStep_wp (Q := RegQ Z φ σ w a env' σ') (K := fun b v => wpList P all (RegQ Z φ σ w a env' σ') r b v) hT hC hs hE hI (by
      intro v u Z1 φ1 w1 hp g1 g2 g3 g4
      obtain ⟨e1, e2⟩ := ER_put (dfs := a.defers) hE g4 g1 g2 hn hp
      exact wpList_mono (RegQ.trans g4 (Act.put_defers' a o.dst u) e2) r _ _ (runOps_ok hT hC r env1 σ1 env' σ' Z1 φ1 (a.put o.dst u) w1 h e1 (by rw [show (a.put o.dst u).tmps.size = a.tmps.size from e2]; exact hn) g3))
    unfold wpList
    exact this

theorem lk_restrict {env : Env} : ∀ (l : List Nat) (t : Nat) (v : AV), lk (restrict l env) t = some v → lk env t = some v
  | [], t, v, h => by simp [restrict, lk] at h
  | s :: r, t, v, h => by
    simp only [restrict] at h
    split at h
    · rename_i u hu
      rw [lk_cons] at h
      split at h
      · rename_i he; subst he; cases h; exact hu
      · exact lk_restrict r t v h
    · exact lk_restrict r t v h

end Go.Abs
