/- The faster interpreter: regions, functions; what it finds the plain interpreter finds. Nothing is claimed here; no condition. -/
import Derived.Test.YtjecbjnckbihoaaDoorAbsS
namespace Go.Abs
open Go

structure FR where
  run : CallT → N2 → St → (N2 → St → Ro) → Ro

def FR.none : FR := ⟨fun _ _ _ _ => Option.none⟩

/-- An operation that is wanted. -/
noncomputable def fmain (T : Tab) (nt : Nat) (o : Oper) : FR :=
  match o.op with
  | .call c => match c.callee with
    | .value f => match fx f, fxs c.args.toList, fput nt o.dst with
      | ⟨g⟩, ⟨as⟩, ⟨p⟩ => ⟨fun call E σ k => g E fun fv => as E fun vs => match fv with
        | .fn id first cap => match call id (first ++ vs ++ cap) σ with
          | some (v, σ') => p v E fun E' => k E' σ'
          | none => none
        | _ => none⟩
    | _ => match fval T o.op, fput nt o.dst with
      | ⟨f⟩, ⟨p⟩ => ⟨fun _ E σ k => f E σ fun v σ' => p v E fun E' => k E' σ'⟩
  | op => match fval T op, fput nt o.dst with
    | ⟨f⟩, ⟨p⟩ => ⟨fun _ E σ k => f E σ fun v σ' => p v E fun E' => k E' σ'⟩

noncomputable def fop (T : Tab) (nt : Nat) (all : Array Oper) (o : Oper) : FR :=
  match o.guard with
  | none => fmain T nt o
  | some (j, want) => match (all[j]?).bind (·.dst) with
    | some t => match fx (.tmp t), fmain T nt o, fput nt o.dst, want with
      | ⟨g⟩, ⟨m⟩, ⟨p⟩, w => ⟨fun call E σ k => g E fun v => match v with
        | .bool b => match b == w with
          | true => m call E σ k
          | false => p (.tup []) E fun E' => k E' σ
        | .tup [] => p (.tup []) E fun E' => k E' σ
        | _ => none⟩
    | none => FR.none

def FR.Step (T : Tab) (nt : Nat) (all : Array Oper) (o : Oper) (f : FR) : Prop := ∀ (call call' : CallT), (∀ f args σ r, call f args σ = some r → call' f args σ = some r) → ∀ (E : N2) (env : Env) (σ : St) (k : N2 → St → Ro) (r : AV × St), RelE E env → f.run call E σ k = some r → ∃ env' E' σ', opStep T call' nt all o env σ = some (env', σ') ∧ RelE E' env' ∧ k E' σ' = some r

theorem fmain_ok {T : Tab} {nt : Nat} {o : Oper} {call : CallT} {E : N2} {env : Env} {σ : St} {k : N2 → St → Ro} {r : AV × St} (hR : RelE E env) (h : (fmain T nt o).run call E σ k = some r) :
    ∃ env' E' σ' v, ((opA T env σ o.op = some (.val v σ')) ∨ ∃ f args, opA T env σ o.op = some (.call f args) ∧ call f args σ = some (v, σ')) ∧ putE nt o.dst v env = some env' ∧ RelE E' env' ∧ k E' σ' = some r := by
  have gen : ∀ op, o.op = op → (fval T op).run E σ (fun v σ' => (fput nt o.dst).put v E fun E' => k E' σ') = some r →
      ∃ env' E' σ' v, ((opA T env σ o.op = some (.val v σ')) ∨ ∃ f args, opA T env σ o.op = some (.call f args) ∧ call f args σ = some (v, σ')) ∧ putE nt o.dst v env = some env' ∧ RelE E' env' ∧ k E' σ' = some r := by
    intro op hop h
    obtain ⟨v, σ', h1, h2⟩ := fval_ok T op E env σ _ r hR h
    obtain ⟨env', E', h3, h4, h5⟩ := fput_ok hR h2
    exact ⟨env', E', σ', v, .inl (by rw [hop]; exact h1), h3, h4, h5⟩
  unfold fmain at h
  split at h
  · rename_i c hop
    split at h
    · rename_i f hc
      obtain ⟨fv, h1, h2⟩ := fx_ok hR (x := f) h
      obtain ⟨vs, h3, h4⟩ := fxs_ok hR h2
      split at h4
      case h_2 => cases h4
      rename_i id first cap
      split at h4
      case h_2 => cases h4
      rename_i v σ' hcall
      obtain ⟨env', E', h5, h6, h7⟩ := fput_ok hR h4
      exact ⟨env', E', σ', v, .inr ⟨id, first ++ vs ++ cap, by rw [hop]; simp only [opA, hc, h3, h1, calleeA], hcall⟩, h5, h6, h7⟩
    · exact gen o.op rfl h
  · exact gen o.op rfl h

theorem fop_ok (T : Tab) (nt : Nat) (all : Array Oper) (o : Oper) : (fop T nt all o).Step T nt all o := by
  intro call call' hcc E env σ k r hR h
  have main : wantedA all o env = some true → (fmain T nt o).run call E σ k = some r → ∃ env' E' σ', opStep T call' nt all o env σ = some (env', σ') ∧ RelE E' env' ∧ k E' σ' = some r := by
    intro hw h
    obtain ⟨env', E', σ', v, h1, h2, h3, h4⟩ := fmain_ok hR h
    refine ⟨env', E', σ', ?_, h3, h4⟩
    unfold opStep
    rw [hw]
    rcases h1 with h1 | ⟨f, args, h1, h5⟩
    · simp only [h1, h2]
    · simp only [h1, hcc _ _ _ _ h5, h2]
  unfold fop at h
  split at h
  · rename_i hg
    exact main (by simp only [wantedA, hg]) h
  · rename_i j want hg
    split at h
    case h_2 => cases h
    rename_i t ht
    obtain ⟨v, h1, h2⟩ := fx_ok hR (x := .tmp t) h
    have h1 : lk env t = some v := h1
    have skip : wantedA all o env = some false → (fput nt o.dst).put (.tup []) E (fun E' => k E' σ) = some r → ∃ env' E' σ', opStep T call' nt all o env σ = some (env', σ') ∧ RelE E' env' ∧ k E' σ' = some r := by
      intro hw h2
      obtain ⟨env', E', h5, h6, h7⟩ := fput_ok hR h2
      refine ⟨env', E', σ, ?_, h6, h7⟩
      unfold opStep
      rw [hw]
      simp only [h5]
    split at h2
    case h_3 => cases h2
    · rename_i b
      split at h2
      · rename_i hb
        exact main (by simp only [wantedA, hg, ht, h1, hb]) h2
      · rename_i hb
        exact skip (by simp only [wantedA, hg, ht, h1, hb]) h2
    · exact skip (by simp only [wantedA, hg, ht, h1]) h2

noncomputable def fops (T : Tab) (nt : Nat) (all : Array Oper) : List Oper → FR
  | [] => ⟨fun _ E σ k => k E σ⟩
  | o :: r => match fop T nt all o, fops T nt all r with
    | ⟨f⟩, ⟨g⟩ => ⟨fun call E σ k => f call E σ fun E' σ' => g call E' σ' k⟩

theorem fops_ok (T : Tab) (nt : Nat) (all : Array Oper) {call call' : CallT} (hc : ∀ f args σ r, call f args σ = some r → call' f args σ = some r) : ∀ (l : List Oper) (E : N2) (env : Env) (σ : St) (k : N2 → St → Ro) (r : AV × St), RelE E env → (fops T nt all l).run call E σ k = some r → ∃ env' E' σ', runOps T call' nt all l env σ = some (env', σ') ∧ RelE E' env' ∧ k E' σ' = some r
  | [], E, env, σ, k, r, hR, h => ⟨env, E, σ, rfl, hR, h⟩
  | o :: l, E, env, σ, k, r, hR, h => by
    simp only [fops] at h
    obtain ⟨env1, E1, σ1, h1, h2, h3⟩ := fop_ok T nt all o call call' hc E env σ _ r hR h
    obtain ⟨env2, E2, σ2, h4, h5, h6⟩ := fops_ok T nt all hc l E1 env1 σ1 k r h2 h3
    exact ⟨env2, E2, σ2, by simp only [runOps, h1, h4], h5, h6⟩

/-! ### Regions whose reads have to be looked at -/
structure FT where
  run : CallT → N2 → St → (List (N2 × St) → Ro) → Ro

noncomputable def ftr (T : Tab) (nt : Nat) (all : Array Oper) : List Oper → FT
  | [] => ⟨fun _ E σ k => k [(E, σ)]⟩
  | o :: r => match fop T nt all o, ftr T nt all r with
    | ⟨f⟩, ⟨g⟩ => ⟨fun call E σ k => f call E σ fun E' σ' => g call E' σ' fun l => k ((E, σ) :: l)⟩

def RelT : List (N2 × St) → List (Env × St) → Prop
  | [], [] => True
  | (E, s) :: x, (e, t) :: y => RelE E e ∧ s = t ∧ RelT x y
  | _, _ => False

theorem ftr_ok (T : Tab) (nt : Nat) (all : Array Oper) {call call' : CallT} (hc : ∀ f args σ r, call f args σ = some r → call' f args σ = some r) : ∀ (l : List Oper) (E : N2) (env : Env) (σ : St) (k : List (N2 × St) → Ro) (r : AV × St), RelE E env → (ftr T nt all l).run call E σ k = some r → ∃ tr trN, runTr T call' nt all l env σ = some tr ∧ RelT trN tr ∧ k trN = some r
  | [], E, env, σ, k, r, hR, h => ⟨[(env, σ)], [(E, σ)], rfl, ⟨hR, rfl, trivial⟩, h⟩
  | o :: l, E, env, σ, k, r, hR, h => by
    simp only [ftr] at h
    obtain ⟨env1, E1, σ1, h1, h2, h3⟩ := fop_ok T nt all o call call' hc E env σ _ r hR h
    obtain ⟨tr, trN, h4, h5, h6⟩ := ftr_ok T nt all hc l E1 env1 σ1 _ r h2 h3
    exact ⟨(env, σ) :: tr, (E, σ) :: trN, by simp only [runTr, h1, h4], ⟨hR, rfl, h5⟩, h6⟩

theorem RelT_at : ∀ {x : List (N2 × St)} {y : List (Env × St)}, RelT x y → ∀ {i : Nat} {E : N2} {σ : St}, lstAt x i = some (E, σ) → ∃ e, lstAt y i = some (e, σ) ∧ RelE E e
  | [], y, h, i, E, σ, hx => by simp [lstAt] at hx
  | (E0, s) :: x, [], h, i, E, σ, hx => h.elim
  | (E0, s) :: x, (e, t) :: y, h, 0, E, σ, hx => by
    simp only [lstAt, Option.some.injEq, Prod.mk.injEq] at hx
    obtain ⟨rfl, rfl⟩ := hx
    obtain ⟨h1, rfl, _⟩ := h
    exact ⟨e, rfl, h1⟩
  | (E0, s) :: x, (e, t) :: y, h, i + 1, E, σ, hx => RelT_at (x := x) h.2.2 (i := i) hx

theorem RelT_last : ∀ {x : List (N2 × St)} {y : List (Env × St)}, RelT x y → ∀ {E : N2} {σ : St}, lastOf x = some (E, σ) → ∃ e, lastOf y = some (e, σ) ∧ RelE E e
  | [], y, h, E, σ, hx => by simp [lastOf] at hx
  | (E0, s) :: x, [], h, E, σ, hx => h.elim
  | [(E0, s)], [(e, t)], h, E, σ, hx => by
    simp only [lastOf, Option.some.injEq, Prod.mk.injEq] at hx
    obtain ⟨rfl, rfl⟩ := hx
    obtain ⟨h1, rfl, _⟩ := h
    exact ⟨e, rfl, h1⟩
  | [(E0, s)], (e, t) :: y :: ys, h, E, σ, hx => h.2.2.elim
  | (E0, s) :: x :: xs, [(e, t)], h, E, σ, hx => h.2.2.elim
  | (E0, s) :: x :: xs, (e, t) :: y :: ys, h, E, σ, hx => RelT_last (x := x :: xs) (y := y :: ys) h.2.2 hx

def guardS (all : Array Oper) (o : Oper) : List Nat :=
  match o.guard with
  | none => []
  | some (j, _) => match (all[j]?).bind (·.dst) with
    | some t => [t]
    | none => []

theorem wantedA_guard {env env' : Env} {all : Array Oper} {o : Oper} (h : ∀ t ∈ guardS all o, lk env t = lk env' t) : wantedA all o env = wantedA all o env' := by
  unfold wantedA
  unfold guardS at h
  cases hg : o.guard with
  | none => rfl
  | some gw =>
    obtain ⟨j, want⟩ := gw
    rw [hg] at h
    simp only [] at h ⊢
    cases ht : (all[j]?).bind (·.dst) with
    | none => rfl
    | some t =>
      rw [ht] at h
      simp only [] at h ⊢
      rw [h t (by simp)]

def pairN (T : Tab) (ops : Array Oper) (tr : List (N2 × St)) (i j : Nat) : Bool :=
  match ops[i]?, lstAt tr i, lstAt tr (bif Nat.blt j i then j else j + 1) with
  | some o, some (E, σ), some (_, σ') => match lsN E (guardS ops o) with
    | none => false
    | some g => match wantedA ops o g with
      | some true => match lsN E (tmpsOf o.op.operands.toList) with
        | some e => sameVal (opA T e σ o.op) (opA T e σ' o.op)
        | none => false
      | _ => true
  | _, _, _ => false

theorem lsN_same {E : N2} {env l : Env} (hR : RelE E env) {ts : List Nat} (h : lsN E ts = some l) {t : Nat} (ht : t ∈ ts) : lk env t = lk l t := by
  obtain ⟨v, h2, h3⟩ := (lsN_ok hR h).1 t ht
  rw [h2, h3]

theorem pairN_ok {T : Tab} {ops : Array Oper} {trN : List (N2 × St)} {tr : List (Env × St)} (hR : RelT trN tr) {i j : Nat} (h : pairN T ops trN i j = true) : pairOk T ops tr i j = true := by
  unfold pairN at h
  split at h
  case h_2 => cases h
  rename_i o E σ E' σ' h1 h2 h3
  obtain ⟨e, k1, k2⟩ := RelT_at hR h2
  obtain ⟨e', k3, k4⟩ := RelT_at hR h3
  split at h
  · cases h
  rename_i g hg
  have hw : wantedA ops o e = wantedA ops o g := wantedA_guard fun t ht => lsN_same k2 hg ht
  unfold pairOk
  rw [h1, k1, k3]
  simp only []
  rw [hw]
  split at h
  · rename_i hwt
    rw [hwt]
    simp only []
    split at h
    case h_2 => cases h
    rename_i l hl
    have ho : ∀ τ, opA T e τ o.op = opA T l τ o.op := fun τ => opA_congr fun x hx => by
      cases x with
      | tmp t => exact lsN_same k2 hl (mem_tmpsOf (by simpa using hx))
      | _ => rfl
    rw [ho σ, ho σ']
    exact h
  · rename_i hwt
    split
    · rename_i hx; exact (hwt hx).elim
    · rfl

def pairsN (T : Tab) (ops : Array Oper) (tr : List (N2 × St)) : List (Nat × Nat) → Bool
  | [] => true
  | (i, j) :: r => pairN T ops tr i j && pairsN T ops tr r

theorem pairsN_ok {T : Tab} {ops : Array Oper} {trN : List (N2 × St)} {tr : List (Env × St)} (hR : RelT trN tr) : ∀ {l : List (Nat × Nat)}, pairsN T ops trN l = true → pairsOk T ops tr l = true
  | [], _ => rfl
  | (i, j) :: r, h => by
    simp only [pairsN, Bool.and_eq_true] at h
    simp only [pairsOk, Bool.and_eq_true]
    exact ⟨pairN_ok hR h.1, pairsN_ok hR h.2⟩

noncomputable def freg (T : Tab) (nt : Nat) (ops : Array Oper) (ps : List (Nat × Nat)) : FR :=
  match ps with
  | [] => fops T nt ops ops.toList
  | p :: ps => match Nat.beq p.1 1000000 with
    | true => ⟨fun _ _ _ _ => none⟩
    | false => match ftr T nt ops ops.toList with
      | ⟨f⟩ => ⟨fun call E σ k => f call E σ fun tr => match pairsN T ops tr (p :: ps) with
        | true => match lastOf tr with
          | some (E', σ') => k E' σ'
          | none => none
        | false => none⟩

theorem freg_ok (T : Tab) (nt : Nat) (ops : Array Oper) (ps : List (Nat × Nat)) {call call' : CallT} (hc : ∀ f args σ r, call f args σ = some r → call' f args σ = some r) {E : N2} {env : Env} {σ : St} {k : N2 → St → Ro} {r : AV × St} (hR : RelE E env) (h : (freg T nt ops ps).run call E σ k = some r) :
    ∃ env' E' σ', regOps T call' nt ops env σ ps = some (env', σ') ∧ RelE E' env' ∧ k E' σ' = some r := by
  cases ps with
  | nil => exact fops_ok T nt ops hc ops.toList E env σ k r hR h
  | cons p ps =>
    cases hq : Nat.beq p.1 1000000 with
    | true => simp only [freg, hq] at h; cases h
    | false =>
    have hq2 : ¬ p.1 = 1000000 := fun e => by rw [e] at hq; cases hq
    simp only [freg, hq] at h
    obtain ⟨tr, trN, h1, h2, h3⟩ := ftr_ok T nt ops hc ops.toList E env σ _ r hR h
    split at h3
    case h_2 => cases h3
    rename_i hp
    split at h3
    case h_2 => cases h3
    rename_i E' σ' hl
    obtain ⟨e, h4, h5⟩ := RelT_last h2 hl
    refine ⟨e, E', σ', ?_, h5, h3⟩
    simp only [regOps, nif_eq, if_neg hq2, h1, pairsN_ok h2 hp, if_true, h4]

def paramsN : Nat → List AV → N2 → N2
  | _, [], E => E
  | i, x :: r, E => paramsN (i + 1) r (bif Nat.blt i 256 then putN2 i x E else E)

theorem paramsN_ok : ∀ {l : List AV} {i : Nat} {E : N2} {env : Env}, RelE E env → (∀ j, i ≤ j → lk env j = none) → ∃ env', RelE (paramsN i l E) env' ∧ ∀ t, lk env' t = match lk env t with | some v => some v | none => lk (paramsE i l) t
  | [], i, E, env, h, hn => ⟨env, h, fun t => by cases lk env t <;> rfl⟩
  | x :: r, i, E, env, h, hn => by
    have h1 : RelE (bif Nat.blt i 256 then putN2 i x E else E) ((i, x) :: env) := by
      cases hb : Nat.blt i 256 with
      | false =>
        intro s hs hne
        have hi : ¬ i < 256 := fun hlt => by
          have : Nat.blt i 256 = true := by unfold Nat.blt; rw [Nat.ble_eq]; exact hlt
          rw [this] at hb; cases hb
        rw [lk_cons, if_neg (by omega)]
        exact h s hs hne
      | true =>
        have hlt : i < 256 := Nat.le_of_ble_eq_true hb
        intro s hs hne
        simp only [cond_true] at hne ⊢
        rw [getN_put hs hlt] at hne ⊢
        rw [lk_cons]
        by_cases hts : i = s
        · rw [if_pos hts, if_pos hts]
        · rw [if_neg hts] at hne; rw [if_neg hts, if_neg hts]
          exact h s hs hne
    obtain ⟨env', h2, h3⟩ := paramsN_ok (l := r) (i := i + 1) h1 (fun j hj => by rw [lk_cons, if_neg (by omega)]; exact hn j (by omega))
    refine ⟨env', h2, fun t => ?_⟩
    rw [h3 t, lk_cons]
    simp only [paramsE, lk_cons]
    by_cases hit : i = t
    · subst hit
      rw [if_pos rfl, if_pos rfl, hn i (Nat.le_refl _)]
    · rw [if_neg hit, if_neg hit]

/-! ### Functions -/
structure FRes where
  run : N2 → St → (List AV → Ro) → Ro

noncomputable def fres (T : Tab) : List ResultVar → FRes
  | [] => ⟨fun _ _ k => k []⟩
  | .tmp t :: r => match fx (.tmp t), fres T r with
    | ⟨f⟩, ⟨g⟩ => ⟨fun E σ k => f E fun v => g E σ fun l => k (v :: l)⟩
  | .cell a t :: r => match fx (.tmp a), fres T r with
    | ⟨f⟩, ⟨g⟩ => ⟨fun E σ k => f E fun p => match loadA T σ t p with
      | some v => g E σ fun l => k (v :: l)
      | none => none⟩

theorem fres_ok {T : Tab} {E : N2} {env : Env} {σ : St} (hR : RelE E env) : ∀ {l : List ResultVar} {k : List AV → Ro} {r : AV × St}, (fres T l).run E σ k = some r → ∃ vs, resA T env σ l = some vs ∧ k vs = some r
  | [], k, r, h => ⟨[], rfl, h⟩
  | .tmp t :: l, k, r, h => by
    obtain ⟨v, h1, h2⟩ := fx_ok hR (x := .tmp t) h
    obtain ⟨vs, h3, h4⟩ := fres_ok hR (l := l) h2
    have h1 : lk env t = some v := h1
    exact ⟨v :: vs, by simp only [resA, h1, h3], h4⟩
  | .cell a t :: l, k, r, h => by
    obtain ⟨p, h1, h2⟩ := fx_ok hR (x := .tmp a) h
    have h1 : lk env a = some p := h1
    split at h2
    case h_2 => cases h2
    rename_i v hv
    obtain ⟨vs, h3, h4⟩ := fres_ok hR (l := l) h2
    exact ⟨v :: vs, by simp only [resA, h1, hv, h3], h4⟩

def packR (σ : St) (l : List AV) : Ro :=
  match l with
  | [v] => some (v, σ)
  | l => some (.tup l, σ)

noncomputable def ffin (T : Tab) (fi : FI) (E : N2) (σ : St) : Ro := (fres T fi.res).run E σ (packR σ)

theorem ffin_ok {T : Tab} {fi : FI} {E : N2} {env : Env} {σ : St} {r : AV × St} (hR : RelE E env) (h : ffin T fi E σ = some r) : finA T fi env σ = some r := by
  obtain ⟨vs, h1, h2⟩ := fres_ok hR h
  unfold finA
  rw [h1]
  unfold packR at h2
  split at h2
  · exact h2
  · rename_i hn
    split
    · rename_i v hv; cases hv; exact (hn v rfl).elim
    · rename_i l hl; cases hl; exact h2
    · rename_i hl; cases hl

structure FH where
  fi : FI
  c : Code
  mode : Nat

def fhead (T : Tab) (f : FuncId) : Option FH :=
  match T.fn f with
  | some F => match F.body with
    | some c => some ⟨FI.of F (T.an f), c, (T.an f).mode⟩
    | none => none
  | none => none

noncomputable def fcall (T : Tab) (rest : FI → List It → N2 → St → Ro) (f : FuncId) (args : List AV) (σ : St) : Ro :=
  match fhead T f with
  | none => match T.fn f with
    | none => T.ext f args σ
    | some _ => none
  | some ⟨fi, c, mode⟩ => match mode with
    | 0 => rest fi [.code c] (paramsN 0 args noSlots) σ
    | m + 1 => match mapO (frzV σ frzDepth) args with
      | none => none
      | some args' => match rest fi [.code c] (paramsN 0 args' noSlots) ⟨[], 0⟩ with
        | none => none
        | some (v, σ1) => match m with
          | 0 => frzR σ1 σ (args.flatMap (rowsV σ frzDepth)) v
          | _ + 1 => ownR σ1 σ v

noncomputable def fstep (T : Tab) (rest : FI → List It → N2 → St → Ro) (fi : FI) (its : List It) (E : N2) (σ : St) : Ro :=
  match its with
  | [] => ffin T fi E σ
  | .blk _ :: k => rest fi k E σ
  | .lp c :: k => rest fi (.code c :: .lp c :: k) E σ
  | .code c :: k => match c with
    | .skip => rest fi k E σ
    | .seq a b => rest fi (.code a :: .code b :: k) E σ
    | .region id ops d => (freg T fi.nt ops (match d with | true => pairsOf fi.dyn id | false => [])).run (fcall T rest) E σ fun E' σ' => rest fi k E' σ'
    | .cond x a b => (fx x).get E fun v => match v with
      | .bool true => rest fi (.code a :: k) E σ
      | .bool false => rest fi (.code b :: k) E σ
      | _ => none
    | .block id a => rest fi (.code a :: .blk id :: k) E σ
    | .loop a => rest fi (.code a :: .lp a :: k) E σ
    | .exit id => match exitA id k with
      | some k' => rest fi k' E σ
      | none => none
    | .ret => ffin T fi E σ
    | _ => none

noncomputable def fexec (T : Tab) (n : Nat) : FI → List It → N2 → St → Ro :=
  Nat.rec (motive := fun _ => FI → List It → N2 → St → Ro) (fun _ _ _ _ => none) (fun _ ih => fstep T ih) n

theorem fexec_succ (T : Tab) (n : Nat) : fexec T (n + 1) = fstep T (fexec T n) := rfl

theorem RelE_params (args : List AV) : RelE (paramsN 0 args noSlots) (paramsE 0 args) := by
  obtain ⟨env', h1, h2⟩ := paramsN_ok (l := args) (i := 0) (env := []) RelE_none (fun j _ => rfl)
  intro t ht hne
  have := h1 t ht hne
  rw [h2 t] at this
  exact this

theorem fcall_ok {T : Tab} {rest : FI → List It → N2 → St → Ro} {ex : FI → List It → Env → St → Ro} (hk : ∀ f, (T.an f).keep = []) (h : ∀ fi its E env σ r, fi.keep = [] → RelE E env → rest fi its E σ = some r → ex fi its env σ = some r) :
    ∀ f args σ r, fcall T rest f args σ = some r → callA T ex f args σ = some r := by
  intro f args σ r hc
  unfold fcall at hc
  unfold callA
  unfold fhead at hc
  cases hF : T.fn f with
  | none => simp only [hF] at hc; exact hc
  | some F =>
    rw [hF] at hc
    cases hB : F.body with
    | none => simp only [hB] at hc; cases hc
    | some c =>
      simp only [hB] at hc ⊢
      have hkk : (FI.of F (T.an f)).keep = [] := hk f
      cases hm : (T.an f).mode with
      | zero =>
        rw [hm] at hc
        rw [if_pos rfl]
        exact h _ _ _ _ _ _ hkk (RelE_params args) hc
      | succ m =>
        rw [hm] at hc
        rw [if_neg (by omega)]
        simp only [] at hc ⊢
        cases ha : mapO (frzV σ frzDepth) args with
        | none => rw [ha] at hc; cases hc
        | some args' =>
          rw [ha] at hc
          simp only [] at hc ⊢
          split at hc
          · cases hc
          · rename_i v σ1 hx
            rw [h _ _ _ _ _ _ hkk (RelE_params args') hx]
            cases m with
            | zero => simp only [] at hc ⊢; rw [if_pos trivial]; exact hc
            | succ m => simp only [] at hc ⊢; rw [if_neg (by omega)]; exact hc

theorem fexec_ok {T : Tab} (hk : ∀ f, (T.an f).keep = []) : ∀ (n : Nat) fi its E env σ r, fi.keep = [] → RelE E env → fexec T n fi its E σ = some r → exec T n fi its env σ = some r := by
  intro n
  induction n with
  | zero => intro fi its E env σ r _ _ h; cases h
  | succ n ih =>
    intro fi its E env σ r hfk hR h
    rw [fexec_succ] at h
    rw [exec_succ]
    unfold fstep at h
    unfold execStep
    split at h
    · exact ffin_ok hR h
    · exact ih _ _ _ _ _ _ hfk hR h
    · exact ih _ _ _ _ _ _ hfk hR h
    · rename_i c k
      simp only []
      split at h
      · exact ih _ _ _ _ _ _ hfk hR h
      · exact ih _ _ _ _ _ _ hfk hR h
      · rename_i id ops d
        obtain ⟨env', E', σ', h1, h2, h3⟩ := freg_ok T fi.nt ops _ (fcall_ok hk ih) hR h
        have : regA T (callA T (exec T n)) fi id ops d env σ = some (env', σ') := by
          unfold regA
          cases d <;> (simp only [] at h1 ⊢; rw [h1]; simp only [hfk, keepE, gcE])
        simp only [this]
        exact ih _ _ _ _ _ _ hfk h2 h3
      · rename_i x a b
        obtain ⟨v, h1, h2⟩ := fx_ok hR h
        simp only [h1]
        split at h2
        · exact ih _ _ _ _ _ _ hfk hR h2
        · exact ih _ _ _ _ _ _ hfk hR h2
        · cases h2
      · exact ih _ _ _ _ _ _ hfk hR h
      · exact ih _ _ _ _ _ _ hfk hR h
      · rename_i id
        simp only []
        split at h
        case h_2 => cases h
        rename_i k' hk'
        rw [hk']
        exact ih _ _ _ _ _ _ hfk hR h
      · exact ffin_ok hR h
      · cases h

/-- What the faster one finds. -/
theorem fcall_exec {T : Tab} (hk : ∀ f, (T.an f).keep = []) {n : Nat} {f : FuncId} {args : List AV} {σ : St} {r : AV × St} (h : fcall T (fexec T n) f args σ = some r) : callA T (exec T n) f args σ = some r :=
  fcall_ok hk (fexec_ok hk n) f args σ r h

theorem Tr.get_map {α β : Type} (f : Nat → α → β) : ∀ (tr : Tr α) (t : Nat), (tr.map f).get t = (tr.get t).map (f t)
  | .lf, t => rfl
  | .nd k v l r, t => by
    simp only [Tr.map, Tr.get]
    cases hb : Nat.beq t k with
    | true => have := Nat.eq_of_beq_eq_true hb; subst this; rfl
    | false =>
      simp only [cond_false]
      cases Nat.blt t k with
      | true => exact Tr.get_map f l t
      | false => exact Tr.get_map f r t

theorem no_keep (an : Tr Ann) (f : Nat) : ((((an.map fun _ a => { a with keep := [] }).get f).getD {}) : Ann).keep = [] := by
  rw [Tr.get_map]
  cases an.get f <;> rfl

/-- What the faster one finds is what the calls do. -/
theorem calls_true_f {P : Program} {T : Tab} {Z : Fz} {φ : Nat → Pl} {σ' : St} (hT : TabOK P T) (hk : ∀ f, (T.an f).keep = []) {n : Nat} {f : FuncId} {args : List AV} (hx : fcall T (fexec T n) f args ⟨[], 0⟩ = some (.bool true, σ')) {us : Array Value} {W : World} (hZ : ∀ B o, Z B = some o → W.heap[B]? = some o)
    (hv : VRs Z φ args us.toList) (hsz : us.size = args.length) (hs : Scs 0 args) : Calls P f us W fun e w' => e = .returned (.bool true) ∧ RowKit.Below W.heap.size W w' :=
  calls_true hT (fcall_exec hk hx) hZ hv hsz hs

end Go.Abs
