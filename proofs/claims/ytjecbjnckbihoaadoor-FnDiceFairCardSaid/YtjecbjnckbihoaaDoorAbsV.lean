/- The interpreter without a bound on its steps. Nothing is claimed here; no condition. -/
import Derived.Test.YtjecbjnckbihoaaDoorAbsU
namespace Go.Abs
open Go

abbrev ExT := FI → List It → Env → St → Option (AV × St)

def LeC (a b : CallT) : Prop := ∀ f args σ r, a f args σ = some r → b f args σ = some r
def LeX (a b : ExT) : Prop := ∀ fi its env σ r, a fi its env σ = some r → b fi its env σ = some r

variable {T : Tab} {nt : Nat} {all : Array Oper}

theorem opStep_mono {a b : CallT} (h : LeC a b) {o : Oper} {env : Env} {σ : St} {r : Env × St} (hs : opStep T a nt all o env σ = some r) : opStep T b nt all o env σ = some r := by
  unfold opStep at hs ⊢
  cases hw : wantedA all o env with
  | none => rw [hw] at hs; cases hs
  | some t =>
    rw [hw] at hs
    cases t with
    | false => exact hs
    | true =>
      simp only [] at hs ⊢
      cases ho : opA T env σ o.op with
      | none => rw [ho] at hs; cases hs
      | some x =>
        rw [ho] at hs
        cases x with
        | val v σ' => exact hs
        | call f args =>
          simp only [] at hs ⊢
          cases hc : a f args σ with
          | none => rw [hc] at hs; cases hs
          | some y => rw [hc] at hs; rw [h _ _ _ _ hc]; exact hs

theorem runOps_mono {a b : CallT} (h : LeC a b) : ∀ {l : List Oper} {env : Env} {σ : St} {r : Env × St}, runOps T a nt all l env σ = some r → runOps T b nt all l env σ = some r
  | [], env, σ, r, hs => hs
  | o :: l, env, σ, r, hs => by
    simp only [runOps] at hs ⊢
    cases ho : opStep T a nt all o env σ with
    | none => rw [ho] at hs; cases hs
    | some x => rw [ho] at hs; rw [opStep_mono h ho]; exact runOps_mono h hs

theorem runTr_mono {a b : CallT} (h : LeC a b) : ∀ {l : List Oper} {env : Env} {σ : St} {r : List (Env × St)}, runTr T a nt all l env σ = some r → runTr T b nt all l env σ = some r
  | [], env, σ, r, hs => hs
  | o :: l, env, σ, r, hs => by
    simp only [runTr] at hs ⊢
    cases ho : opStep T a nt all o env σ with
    | none => rw [ho] at hs; cases hs
    | some x =>
      rw [ho] at hs; rw [opStep_mono h ho]
      simp only [] at hs ⊢
      cases hr : runTr T a nt all l x.1 x.2 with
      | none => rw [hr] at hs; cases hs
      | some y => rw [hr] at hs; rw [runTr_mono h hr]; exact hs

theorem runTrF_mono {a b : CallT} (h : LeC a b) {tw : List Nat} : ∀ {l : List Oper} {i : Nat} {env : Env} {σ : St} {r : List (Env × St)}, runTrF T a nt all tw i l env σ = some r → runTrF T b nt all tw i l env σ = some r
  | [], i, env, σ, r, hs => hs
  | o :: l, i, env, σ, r, hs => by
    simp only [runTrF] at hs ⊢
    cases hf : (memI i tw || freshOp T o.op) with
    | true =>
      rw [hf] at hs
      simp only [] at hs ⊢
      cases hr : runTrF T a nt all tw (i + 1) l env σ with
      | none => rw [hr] at hs; cases hs
      | some y => rw [hr] at hs; rw [runTrF_mono h hr]; exact hs
    | false =>
      rw [hf] at hs
      simp only [] at hs ⊢
      cases ho : opStep T a nt all o env σ with
      | none => rw [ho] at hs; cases hs
      | some x =>
        rw [ho] at hs; rw [opStep_mono h ho]
        simp only [] at hs ⊢
        cases hr : runTrF T a nt all tw (i + 1) l x.1 x.2 with
        | none => rw [hr] at hs; cases hs
        | some y => rw [hr] at hs; rw [runTrF_mono h hr]; exact hs

theorem runTr2_mono {a b : CallT} (h : LeC a b) {tw : List Nat} : ∀ {l : List Oper} {i : Nat} {env : Env} {σ : St} {r : Env × St}, runTr2 T a nt all tw i l env σ = some r → runTr2 T b nt all tw i l env σ = some r
  | [], i, env, σ, r, hs => hs
  | o :: l, i, env, σ, r, hs => by
    simp only [runTr2] at hs ⊢
    cases hf : memI i tw with
    | false => rw [hf] at hs; exact runTr2_mono h hs
    | true =>
      rw [hf] at hs
      simp only [] at hs ⊢
      cases ho : opStep T a nt all o env σ with
      | none => rw [ho] at hs; cases hs
      | some x => rw [ho] at hs; rw [opStep_mono h ho]; exact runTr2_mono h hs

theorem regF_mono {a b : CallT} (h : LeC a b) {ops : Array Oper} {env : Env} {σ : St} {tw : List Nat} {ps : List (Nat × Nat)} {r : Env × St} (hs : regF T a nt ops env σ tw ps = some r) : regF T b nt ops env σ tw ps = some r := by
  unfold regF at hs ⊢
  cases hr : runTrF T a nt ops tw 0 ops.toList env σ with
  | none => rw [hr] at hs; cases hs
  | some tr =>
    rw [hr] at hs; rw [runTrF_mono h hr]
    simp only [] at hs ⊢
    split at hs
    case isFalse => cases hs
    rename_i hp
    rw [if_pos hp]
    cases hl : lastOf tr with
    | none => rw [hl] at hs; cases hs
    | some x =>
      rw [hl] at hs
      simp only [] at hs ⊢
      cases hx : runOps T a nt ops (selF T tw 0 ops.toList) x.1 x.2 with
      | none => rw [hx] at hs; cases hs
      | some y => rw [hx] at hs; rw [runOps_mono h hx]; exact runTr2_mono h hs

theorem regOps_mono {a b : CallT} (h : LeC a b) {ops : Array Oper} {env : Env} {σ : St} : ∀ {ps : List (Nat × Nat)} {r : Env × St}, regOps T a nt ops env σ ps = some r → regOps T b nt ops env σ ps = some r
  | [], r, hs => runOps_mono h hs
  | p :: ps, r, hs => by
    simp only [regOps, nif_eq] at hs ⊢
    by_cases hq : p.1 = 1000000
    · rw [if_pos hq] at hs ⊢; exact regF_mono h hs
    rw [if_neg hq] at hs ⊢
    cases hr : runTr T a nt ops ops.toList env σ with
    | none => rw [hr] at hs; cases hs
    | some y => rw [hr] at hs; rw [runTr_mono h hr]; exact hs

theorem regA_mono {a b : CallT} (h : LeC a b) {fi : FI} {id : Nat} {ops : Array Oper} {d : Bool} {env : Env} {σ : St} {r : Env × St} (hs : regA T a fi id ops d env σ = some r) : regA T b fi id ops d env σ = some r := by
  unfold regA at hs ⊢
  cases d with
  | false =>
    simp only [] at hs ⊢
    cases hr : regOps T a fi.nt ops env σ [] with
    | none => rw [hr] at hs; cases hs
    | some y => rw [hr] at hs; rw [regOps_mono h hr]; exact hs
  | true =>
    simp only [] at hs ⊢
    cases hr : regOps T a fi.nt ops env σ (pairsOf fi.dyn id) with
    | none => rw [hr] at hs; cases hs
    | some y => rw [hr] at hs; rw [regOps_mono h hr]; exact hs

theorem callA_mono {a b : ExT} (h : LeX a b) : LeC (callA T a) (callA T b) := by
  intro f args σ r hs
  unfold callA at hs ⊢
  cases hF : T.fn f with
  | none => rw [hF] at hs; exact hs
  | some F =>
    rw [hF] at hs
    simp only [] at hs ⊢
    cases hB : F.body with
    | none => rw [hB] at hs; cases hs
    | some c =>
      rw [hB] at hs
      simp only [] at hs ⊢
      by_cases hm : (T.an f).mode = 0
      · rw [if_pos hm] at hs ⊢; exact h _ _ _ _ _ hs
      · rw [if_neg hm] at hs ⊢
        cases ha : mapO (frzV σ frzDepth) args with
        | none => rw [ha] at hs; cases hs
        | some args' =>
          rw [ha] at hs
          simp only [] at hs ⊢
          cases hx : a (FI.of F (T.an f)) [.code c] (paramsE 0 args') ⟨[], 0⟩ with
          | none => rw [hx] at hs; cases hs
          | some y => rw [hx] at hs; rw [h _ _ _ _ _ hx]; exact hs

theorem execStep_mono {a b : ExT} (h : LeX a b) : LeX (execStep T a) (execStep T b) := by
  intro fi its env σ r hs
  unfold execStep at hs ⊢
  cases its with
  | nil => exact hs
  | cons i k =>
    cases i with
    | blk _ => exact h _ _ _ _ _ hs
    | lp _ => exact h _ _ _ _ _ hs
    | code c =>
      cases c with
      | region id ops d =>
        simp only [] at hs ⊢
        cases hr : regA T (callA T a) fi id ops d env σ with
        | none => rw [hr] at hs; cases hs
        | some y => rw [hr] at hs; rw [regA_mono (callA_mono h) hr]; exact h _ _ _ _ _ hs
      | cond x p q =>
        simp only [] at hs ⊢
        cases hx : evo env x with
        | none => rw [hx] at hs; cases hs
        | some v =>
          rw [hx] at hs
          cases v with
          | bool t =>
            simp only [] at hs ⊢
            cases t with
            | true => exact h _ _ _ _ _ hs
            | false => exact h _ _ _ _ _ hs
          | _ => cases hs
      | exit id =>
        simp only [] at hs ⊢
        cases hx : exitA id k with
        | none => rw [hx] at hs; cases hs
        | some k' => rw [hx] at hs; exact h _ _ _ _ _ hs
      | skip => exact h _ _ _ _ _ hs
      | seq _ _ => exact h _ _ _ _ _ hs
      | block _ _ => exact h _ _ _ _ _ hs
      | loop _ => exact h _ _ _ _ _ hs
      | ret => exact hs
      | _ => cases hs

theorem exec_le_succ (n : Nat) : LeX (exec T n) (exec T (n + 1)) := by
  induction n with
  | zero => intro fi its env σ r h; cases h
  | succ n ih => rw [exec_succ, exec_succ]; exact execStep_mono ih

theorem exec_le {n m : Nat} (h : n ≤ m) : LeX (exec T n) (exec T m) := by
  induction m with
  | zero => have : n = 0 := by omega
            subst this; intro _ _ _ _ _ h; exact h
  | succ m ih =>
    by_cases he : n = m + 1
    · subst he; intro _ _ _ _ _ h; exact h
    · intro fi its env σ r hr
      exact exec_le_succ m _ _ _ _ _ (ih (by omega) _ _ _ _ _ hr)

/-- The outcome with as many steps as it takes. -/
noncomputable def exI (T : Tab) : ExT := fun fi its env σ =>
  open Classical in if h : ∃ n r, exec T n fi its env σ = some r then some h.choose_spec.choose else none

theorem exI_iff {fi : FI} {its : List It} {env : Env} {σ : St} {r : AV × St} : exI T fi its env σ = some r ↔ ∃ n, exec T n fi its env σ = some r := by
  constructor
  · intro h
    unfold exI at h
    split at h
    · rename_i hx
      cases h
      exact ⟨hx.choose, hx.choose_spec.choose_spec⟩
    · cases h
  · rintro ⟨n, h⟩
    have hx : ∃ n r, exec T n fi its env σ = some r := ⟨n, r, h⟩
    unfold exI
    rw [dif_pos hx]
    have h1 := hx.choose_spec.choose_spec
    have h2 := exec_le (T := T) (Nat.le_max_left n hx.choose) _ _ _ _ _ h
    have h3 := exec_le (T := T) (Nat.le_max_right n hx.choose) _ _ _ _ _ h1
    rw [h2] at h3
    exact h3.symm

noncomputable def callI (T : Tab) : CallT := callA T (exI T)

theorem exec_le_exI (n : Nat) : LeX (exec T n) (exI T) := fun _ _ _ _ _ h => exI_iff.2 ⟨n, h⟩

theorem callI_some {f : FuncId} {args : List AV} {σ : St} {r : AV × St} (h : callI T f args σ = some r) : ∃ n, callA T (exec T n) f args σ = some r := by
  unfold callI callA at h
  unfold callA
  cases hF : T.fn f with
  | none => rw [hF] at h; exact ⟨0, h⟩
  | some F =>
    rw [hF] at h
    simp only [] at h ⊢
    cases hB : F.body with
    | none => rw [hB] at h; cases h
    | some c =>
      rw [hB] at h
      simp only [] at h ⊢
      by_cases hm : (T.an f).mode = 0
      · rw [if_pos hm] at h
        obtain ⟨n, hn⟩ := exI_iff.1 h
        exact ⟨n, by rw [if_pos hm]; exact hn⟩
      · rw [if_neg hm] at h
        cases ha : mapO (frzV σ frzDepth) args with
        | none => rw [ha] at h; cases h
        | some args' =>
          rw [ha] at h
          simp only [] at h
          cases hx : exI T (FI.of F (T.an f)) [.code c] (paramsE 0 args') ⟨[], 0⟩ with
          | none => rw [hx] at h; cases h
          | some y =>
            rw [hx] at h
            obtain ⟨n, hn⟩ := exI_iff.1 hx
            exact ⟨n, by rw [if_neg hm]; simp only []; rw [hn]; exact h⟩

theorem callI_le {n m : Nat} (h : n ≤ m) : LeC (callA T (exec T n)) (callA T (exec T m)) := callA_mono (exec_le h)

theorem opStep_I {o : Oper} {env : Env} {σ : St} {r : Env × St} (h : opStep T (callI T) nt all o env σ = some r) : ∃ n, opStep T (callA T (exec T n)) nt all o env σ = some r := by
  unfold opStep at h
  cases hw : wantedA all o env with
  | none => rw [hw] at h; cases h
  | some t =>
    rw [hw] at h
    cases t with
    | false => exact ⟨0, by unfold opStep; rw [hw]; exact h⟩
    | true =>
      simp only [] at h
      cases ho : opA T env σ o.op with
      | none => rw [ho] at h; cases h
      | some x =>
        rw [ho] at h
        cases x with
        | val v σ' => exact ⟨0, by unfold opStep; rw [hw]; simp only [ho]; exact h⟩
        | call f args =>
          simp only [] at h
          cases hc : callI T f args σ with
          | none => rw [hc] at h; cases h
          | some y =>
            rw [hc] at h
            obtain ⟨n, hn⟩ := callI_some hc
            exact ⟨n, by unfold opStep; rw [hw]; simp only [ho, hn]; exact h⟩

theorem runOps_I : ∀ {l : List Oper} {env : Env} {σ : St} {r : Env × St}, runOps T (callI T) nt all l env σ = some r → ∃ n, runOps T (callA T (exec T n)) nt all l env σ = some r
  | [], env, σ, r, h => ⟨0, h⟩
  | o :: l, env, σ, r, h => by
    simp only [runOps] at h
    cases ho : opStep T (callI T) nt all o env σ with
    | none => rw [ho] at h; cases h
    | some x =>
      rw [ho] at h
      obtain ⟨n, hn⟩ := opStep_I ho
      obtain ⟨m, hm⟩ := runOps_I h
      refine ⟨max n m, ?_⟩
      simp only [runOps]
      rw [opStep_mono (callI_le (Nat.le_max_left n m)) hn]
      exact runOps_mono (callI_le (Nat.le_max_right n m)) hm

theorem runTr_I : ∀ {l : List Oper} {env : Env} {σ : St} {r : List (Env × St)}, runTr T (callI T) nt all l env σ = some r → ∃ n, runTr T (callA T (exec T n)) nt all l env σ = some r
  | [], env, σ, r, h => ⟨0, h⟩
  | o :: l, env, σ, r, h => by
    simp only [runTr] at h
    cases ho : opStep T (callI T) nt all o env σ with
    | none => rw [ho] at h; cases h
    | some x =>
      rw [ho] at h
      simp only [] at h
      cases hr : runTr T (callI T) nt all l x.1 x.2 with
      | none => rw [hr] at h; cases h
      | some y =>
        rw [hr] at h
        obtain ⟨n, hn⟩ := opStep_I ho
        obtain ⟨m, hm⟩ := runTr_I hr
        refine ⟨max n m, ?_⟩
        simp only [runTr]
        rw [opStep_mono (callI_le (Nat.le_max_left n m)) hn]
        simp only []
        rw [runTr_mono (callI_le (Nat.le_max_right n m)) hm]
        exact h

theorem runTrF_I {tw : List Nat} : ∀ {l : List Oper} {i : Nat} {env : Env} {σ : St} {r : List (Env × St)}, runTrF T (callI T) nt all tw i l env σ = some r → ∃ n, runTrF T (callA T (exec T n)) nt all tw i l env σ = some r
  | [], i, env, σ, r, h => ⟨0, h⟩
  | o :: l, i, env, σ, r, h => by
    simp only [runTrF] at h
    cases hf : (memI i tw || freshOp T o.op) with
    | true =>
      rw [hf] at h
      simp only [] at h
      cases hr : runTrF T (callI T) nt all tw (i + 1) l env σ with
      | none => rw [hr] at h; cases h
      | some y =>
        rw [hr] at h
        obtain ⟨m, hm⟩ := runTrF_I hr
        exact ⟨m, by simp only [runTrF, hf]; rw [hm]; exact h⟩
    | false =>
    rw [hf] at h
    simp only [] at h
    cases ho : opStep T (callI T) nt all o env σ with
    | none => rw [ho] at h; cases h
    | some x =>
      rw [ho] at h
      simp only [] at h
      cases hr : runTrF T (callI T) nt all tw (i + 1) l x.1 x.2 with
      | none => rw [hr] at h; cases h
      | some y =>
        rw [hr] at h
        obtain ⟨n, hn⟩ := opStep_I ho
        obtain ⟨m, hm⟩ := runTrF_I hr
        refine ⟨max n m, ?_⟩
        simp only [runTrF, hf]
        rw [opStep_mono (callI_le (Nat.le_max_left n m)) hn]
        simp only []
        rw [runTrF_mono (callI_le (Nat.le_max_right n m)) hm]
        exact h

theorem runTr2_I {tw : List Nat} : ∀ {l : List Oper} {i : Nat} {env : Env} {σ : St} {r : Env × St}, runTr2 T (callI T) nt all tw i l env σ = some r → ∃ n, runTr2 T (callA T (exec T n)) nt all tw i l env σ = some r
  | [], i, env, σ, r, h => ⟨0, h⟩
  | o :: l, i, env, σ, r, h => by
    simp only [runTr2] at h
    cases hf : memI i tw with
    | false =>
      rw [hf] at h
      obtain ⟨n, hn⟩ := runTr2_I (l := l) h
      exact ⟨n, by simp only [runTr2, hf]; exact hn⟩
    | true =>
      rw [hf] at h
      simp only [] at h
      cases ho : opStep T (callI T) nt all o env σ with
      | none => rw [ho] at h; cases h
      | some x =>
        rw [ho] at h
        obtain ⟨n, hn⟩ := opStep_I ho
        obtain ⟨m, hm⟩ := runTr2_I (l := l) h
        refine ⟨max n m, ?_⟩
        simp only [runTr2, hf]
        rw [opStep_mono (callI_le (Nat.le_max_left n m)) hn]
        exact runTr2_mono (callI_le (Nat.le_max_right n m)) hm

theorem regF_I {ops : Array Oper} {env : Env} {σ : St} {tw : List Nat} {ps : List (Nat × Nat)} {r : Env × St} (h : regF T (callI T) nt ops env σ tw ps = some r) : ∃ n, regF T (callA T (exec T n)) nt ops env σ tw ps = some r := by
  unfold regF at h
  cases hr : runTrF T (callI T) nt ops tw 0 ops.toList env σ with
  | none => rw [hr] at h; cases h
  | some tr =>
    rw [hr] at h
    simp only [] at h
    split at h
    case isFalse => cases h
    rename_i hp
    cases hl : lastOf tr with
    | none => rw [hl] at h; cases h
    | some x =>
      rw [hl] at h
      simp only [] at h
      cases hx : runOps T (callI T) nt ops (selF T tw 0 ops.toList) x.1 x.2 with
      | none => rw [hx] at h; cases h
      | some y =>
        rw [hx] at h
        obtain ⟨n, hn⟩ := runTrF_I hr
        obtain ⟨m, hm⟩ := runOps_I hx
        obtain ⟨k, hk⟩ := runTr2_I h
        refine ⟨max n (max m k), ?_⟩
        unfold regF
        rw [runTrF_mono (callI_le (Nat.le_max_left n (max m k))) hn]
        simp only []
        rw [if_pos hp, hl]
        simp only []
        rw [runOps_mono (callI_le (Nat.le_trans (Nat.le_max_left m k) (Nat.le_max_right n (max m k)))) hm]
        exact runTr2_mono (callI_le (Nat.le_trans (Nat.le_max_right m k) (Nat.le_max_right n (max m k)))) hk

theorem regOps_I {ops : Array Oper} {env : Env} {σ : St} : ∀ {ps : List (Nat × Nat)} {r : Env × St}, regOps T (callI T) nt ops env σ ps = some r → ∃ n, regOps T (callA T (exec T n)) nt ops env σ ps = some r
  | [], r, h => runOps_I h
  | p :: ps, r, h => by
    simp only [regOps, nif_eq] at h
    by_cases hq : p.1 = 1000000
    · rw [if_pos hq] at h
      obtain ⟨n, hn⟩ := regF_I h
      exact ⟨n, by simp only [regOps, nif_eq, if_pos hq]; exact hn⟩
    · rw [if_neg hq] at h
      cases ht : runTr T (callI T) nt ops ops.toList env σ with
      | none => rw [ht] at h; cases h
      | some tr =>
        rw [ht] at h
        obtain ⟨n, hn⟩ := runTr_I ht
        exact ⟨n, by simp only [regOps, nif_eq, if_neg hq]; rw [hn]; exact h⟩

theorem regA_I {fi : FI} {id : Nat} {ops : Array Oper} {d : Bool} {env : Env} {σ : St} {r : Env × St} (h : regA T (callI T) fi id ops d env σ = some r) : ∃ n, regA T (callA T (exec T n)) fi id ops d env σ = some r := by
  have key : ∀ ps, (match regOps T (callI T) fi.nt ops env σ ps with | some (env', σ') => some (keepE fi.keep id env', gcE fi.keep id (keepE fi.keep id env') σ') | none => none) = some r → ∃ n, (match regOps T (callA T (exec T n)) fi.nt ops env σ ps with | some (env', σ') => some (keepE fi.keep id env', gcE fi.keep id (keepE fi.keep id env') σ') | none => none) = some r := by
    intro ps h
    cases hr : regOps T (callI T) fi.nt ops env σ ps with
    | none => rw [hr] at h; cases h
    | some y =>
      rw [hr] at h
      obtain ⟨n, hn⟩ := regOps_I hr
      exact ⟨n, by rw [hn]; exact h⟩
  unfold regA at h ⊢
  cases d with
  | false => exact key _ h
  | true => exact key _ h

/-- The equation. -/
theorem exI_eq (fi : FI) (its : List It) (env : Env) (σ : St) : exI T fi its env σ = execStep T (exI T) fi its env σ := by
  have dir : ∀ r, exI T fi its env σ = some r → execStep T (exI T) fi its env σ = some r := by
    intro r h
    obtain ⟨n, hn⟩ := exI_iff.1 h
    cases n with
    | zero => cases hn
    | succ n => rw [exec_succ] at hn; exact execStep_mono (exec_le_exI n) _ _ _ _ _ hn
  have back : ∀ r, execStep T (exI T) fi its env σ = some r → exI T fi its env σ = some r := by
    intro r h
    have up : ∀ n its' env' σ', exI T fi its' env' σ' = some r → (∀ m, n ≤ m → ∀ q, exec T m fi its' env' σ' = some q → execStep T (exec T m) fi its env σ = some q) → exI T fi its env σ = some r := by
      intro n its' env' σ' hx hm
      obtain ⟨m, hq⟩ := exI_iff.1 hx
      exact exI_iff.2 ⟨max n m + 1, by rw [exec_succ]; exact hm _ (Nat.le_max_left n m) _ (exec_le (Nat.le_max_right n m) _ _ _ _ _ hq)⟩
    unfold execStep at h
    cases its with
    | nil => exact exI_iff.2 ⟨1, h⟩
    | cons i k =>
      cases i with
      | blk _ => exact up 0 _ _ _ h (fun m _ q hq => hq)
      | lp _ => exact up 0 _ _ _ h (fun m _ q hq => hq)
      | code c =>
        cases c with
        | region id ops d =>
          simp only [] at h
          cases hr : regA T (callA T (exI T)) fi id ops d env σ with
          | none => rw [hr] at h; cases h
          | some y =>
            rw [hr] at h
            obtain ⟨n, hn⟩ := regA_I (T := T) hr
            exact up n _ _ _ h (fun m hm q hq => by
              unfold execStep
              simp only []
              rw [regA_mono (callI_le hm) hn]
              exact hq)
        | cond x p q =>
          simp only [] at h
          cases hx : evo env x with
          | none => rw [hx] at h; cases h
          | some v =>
            rw [hx] at h
            cases v with
            | bool t =>
              simp only [] at h
              cases t with
              | true => exact up 0 _ _ _ h (fun m _ q hq => by unfold execStep; simp only [hx]; exact hq)
              | false => exact up 0 _ _ _ h (fun m _ q hq => by unfold execStep; simp only [hx]; exact hq)
            | _ => cases h
        | exit id =>
          simp only [] at h
          cases hx : exitA id k with
          | none => rw [hx] at h; cases h
          | some k' => rw [hx] at h; exact up 0 _ _ _ h (fun m _ q hq => by unfold execStep; simp only [hx]; exact hq)
        | skip => exact up 0 _ _ _ h (fun m _ q hq => hq)
        | seq _ _ => exact up 0 _ _ _ h (fun m _ q hq => hq)
        | block _ _ => exact up 0 _ _ _ h (fun m _ q hq => hq)
        | loop _ => exact up 0 _ _ _ h (fun m _ q hq => hq)
        | ret => exact exI_iff.2 ⟨1, h⟩
        | _ => cases h
  cases h : exI T fi its env σ with
  | some r => exact (dir r h).symm
  | none =>
    cases h2 : execStep T (exI T) fi its env σ with
    | none => rfl
    | some r => rw [back r h2] at h; cases h

end Go.Abs
