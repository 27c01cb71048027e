/- Regions whose order the model draws: every order that is allowed comes to the same. Nothing is claimed here; no condition. -/
import Derived.Test.YtjecbjnckbihoaaDoorAbsM
import Derived.Orders
namespace Go.Abs
open Go

variable {P : Program} {T : Tab} {Z Zc : Fz} {φ : Nat → Pl} {σ σ' : St} {w w' : World}

/-! ### What an operation looks at -/
theorem evos_congr {env env' : Env} : ∀ (l : List Operand), (∀ x ∈ l, evo env x = evo env' x) → evos env l = evos env' l
  | [], _ => rfl
  | x :: r, h => by
    simp only [evos]
    rw [h x (by simp), evos_congr r (fun y hy => h y (by simp [hy]))]

theorem evPairs_congr {env env' : Env} : ∀ (l : List (Nat × Operand)), (∀ x ∈ l.map (·.2), evo env x = evo env' x) → evPairs env l = evPairs env' l
  | [], _ => rfl
  | (i, x) :: r, h => by
    simp only [evPairs]
    rw [h x (by simp), evPairs_congr r (fun y hy => h y (by simp at hy ⊢; exact .inr hy))]

theorem evOpt_congr {env env' : Env} : ∀ (l : Option Operand), (∀ x ∈ l.toArray, evo env x = evo env' x) → evOpt env l = evOpt env' l
  | none, _ => rfl
  | some x, h => by simp only [evOpt]; rw [h x (by simp)]

theorem opA_congr {env env' : Env} {op : Op} (h : ∀ x ∈ op.operands, evo env x = evo env' x) : opA T env σ op = opA T env' σ op := by
  cases op
  case build t ps =>
    simp only [opA]
    rw [evPairs_congr ps.toList (fun x hx => h x (by simpa [Op.operands] using hx))]
  case buildSlice t n ps =>
    simp only [opA]
    rw [evPairs_congr ps.toList (fun x hx => h x (by simpa [Op.operands] using hx))]
  case makeFunc f a b =>
    simp only [opA]
    rw [evos_congr a.toList (fun x hx => h x (by simp only [Op.operands, Array.mem_append]; exact .inl (by simpa using hx))),
      evos_congr b.toList (fun x hx => h x (by simp only [Op.operands, Array.mem_append]; exact .inr (by simpa using hx)))]
  case slice t x lo hi mx =>
    simp only [opA]
    rw [h x (by simp [Op.operands]), evOpt_congr lo (fun y hy => h y (by simp only [Op.operands, Array.mem_append]; exact .inl (.inl (.inr hy)))),
      evOpt_congr hi (fun y hy => h y (by simp only [Op.operands, Array.mem_append]; exact .inl (.inr hy))),
      evOpt_congr mx (fun y hy => h y (by simp only [Op.operands, Array.mem_append]; exact .inr hy))]
  case call c =>
    have hargs : evos env c.args.toList = evos env' c.args.toList := evos_congr _ (fun x hx => h x (by
      simp only [Op.operands, Call.operands]; split <;> simp at hx ⊢ <;> first | exact .inr hx | exact hx))
    simp only [opA]
    rw [hargs]
    cases hc : c.callee with
    | value f =>
      have he := h f (by simp [Op.operands, Call.operands, hc])
      cases evos env' c.args.toList with
      | none => rfl
      | some l => simp only []; rw [he]
    | builtin b => cases evos env' c.args.toList <;> rfl
    | _ => cases evos env' c.args.toList <;> rfl
  all_goals first | rfl | (simp only [opA]; simp only [Op.operands] at h; simp [h]; done) | (simp [Op.operands] at h; simp only [opA, h])

theorem wantedA_congr {env env' : Env} {all : Array Oper} {o : Oper} (h : ∀ t ∈ o.looksAt all, lk env t = lk env' t) : wantedA all o env = wantedA all o env' := by
  unfold wantedA
  cases hg : o.guard with
  | none => rfl
  | some gw =>
    obtain ⟨j, want⟩ := gw
    simp only []
    cases ht : (all[j]?).bind (·.dst) with
    | none => rfl
    | some t =>
      simp only []
      rw [h t (by unfold Oper.looksAt; rw [hg]; simp [ht])]

theorem lk_restrict_mem {env : Env} : ∀ (l : List Nat) (t : Nat), t ∈ l → lk (restrict l env) t = lk env t
  | [], t, h => by simp at h
  | s :: r, t, h => by
    simp only [restrict]
    by_cases hst : s = t
    · subst hst
      cases hu : lk env s with
      | some u => simp only []; rw [lk_cons, if_pos rfl]
      | none =>
        simp only []
        cases hx : lk (restrict r env) s with
        | none => rfl
        | some v => rw [lk_restrict r s v hx] at hu; cases hu
    · have hr : t ∈ r := by simp at h; exact h.resolve_left (fun e => hst e.symm)
      cases hu : lk env s with
      | some u => simp only []; rw [lk_cons, if_neg hst]; exact lk_restrict_mem r t hr
      | none => exact lk_restrict_mem r t hr

theorem lk_restrict_in {env : Env} : ∀ (l : List Nat) (t : Nat) (v : AV), lk (restrict l env) t = some v → t ∈ l
  | [], t, v, h => by simp [restrict, lk] at h
  | s :: r, t, v, h => by
    simp only [restrict] at h
    split at h
    · rw [lk_cons] at h
      split at h
      · rename_i he; simp [he]
      · simp [lk_restrict_in r t v h]
    · simp [lk_restrict_in r t v h]

theorem opStep_restrict {call : FuncId → List AV → St → Option (AV × St)} {nt : Nat} {all : Array Oper} {o : Oper} {env env1 : Env} {σ1 : St} (h : opStep T call nt all o env σ = some (env1, σ1)) :
    ∃ env2, opStep T call nt all o (restrict (o.looksAt all) env) σ = some (env2, σ1) ∧ ∀ v, putE nt o.dst v (restrict (o.looksAt all) env) = some env2 → putE nt o.dst v env = some env1 := by
  have hw : wantedA all o (restrict (o.looksAt all) env) = wantedA all o env := wantedA_congr (fun t ht => lk_restrict_mem _ t ht)
  have ho : opA T (restrict (o.looksAt all) env) σ o.op = opA T env σ o.op := opA_congr (fun x hx => by
    cases x with
    | tmp t => exact lk_restrict_mem _ t (by unfold Oper.looksAt; exact List.mem_append_left _ (List.mem_filterMap.2 ⟨.tmp t, by simpa using hx, rfl⟩))
    | _ => rfl)
  have hp : ∀ v e, putE nt o.dst v env = some e → ∃ e', putE nt o.dst v (restrict (o.looksAt all) env) = some e' := by
    intro v e he
    unfold putE at he ⊢
    split at he
    · exact ⟨_, rfl⟩
    · split at he
      · rename_i hlt; rw [if_pos hlt]; exact ⟨_, rfl⟩
      · cases he
  have hq : ∀ v e e' u, putE nt o.dst v env = some e → putE nt o.dst v (restrict (o.looksAt all) env) = some e' → putE nt o.dst u (restrict (o.looksAt all) env) = some e' → putE nt o.dst u env = some e := by
    intro v e e' u h1 h2 h3
    unfold putE at h1 h2 h3 ⊢
    cases hd : o.dst with
    | none => rw [hd] at h1; exact h1
    | some t =>
      rw [hd] at h1 h2 h3
      simp only [] at h1 h2 h3 ⊢
      split at h1
      · rename_i hlt
        rw [if_pos hlt] at h2 h3 ⊢
        cases h1
        rw [← h2] at h3
        simp at h3
        rw [h3]
      · cases h1
  unfold opStep at h ⊢
  rw [hw, ho]
  split at h
  · cases h
  · split at h
    case h_2 => cases h
    rename_i e1 he1
    cases h
    obtain ⟨e', h2⟩ := hp _ _ he1
    exact ⟨e', by simp only [h2], fun u hu => hq _ _ _ u he1 h2 hu⟩
  · split at h
    · cases h
    · split at h
      case h_2 => cases h
      rename_i e1 he1
      cases h
      obtain ⟨e', h2⟩ := hp _ _ he1
      exact ⟨e', by simp only [h2], fun u hu => hq _ _ _ u he1 h2 hu⟩
    · split at h
      · cases h
      split at h
      case h_2 => cases h
      rename_i hc e1 he1
      cases h
      obtain ⟨e', h2⟩ := hp _ _ he1
      exact ⟨e', by simp only [h2], fun u hu => hq _ _ _ u he1 h2 hu⟩

/-! ### Kinds of operations -/
/-- 0: asks and changes no memory; 1: only reads; 2: all else. -/
def clsA (T : Tab) : Op → Nat
  | .move _ | .assign _ | .pick .. | .build .. | .nilCheck _ | .binOp .. | .unOp .. | .makeFunc .. | .fieldAddr .. | .field .. | .indexAddr .. | .index .. | .extract .. => 0
  | .load t a => bif pureLd T t a then 0 else 1
  | .slice .. => 1
  | .convert s d _ => match T.ty s, T.ty d with
    | some i, some j => match i.k, j.k with
      | .int _, .int _ => 0
      | .string, .string => 0
      | _, _ => 2
    | _, _ => 2
  | .call c => match c.callee with
    | .builtin .len | .builtin .min | .builtin .max => 0
    | .builtin .cap => 1
    | _ => 2
  | _ => 2

theorem valS_pure {x : Option AV} {r : Nx} (h : valS σ x = some r) : ∃ v, r = .val v σ ∧ ∀ τ, valS τ x = some (.val v τ) := by
  cases x with
  | none => cases h
  | some v => cases h; exact ⟨v, rfl, fun _ => rfl⟩

theorem builtin_len_pure {ts : List TypeId} {args : List AV} {r : Nx} (h : builtinA T σ .len ts args = some r) : ∃ v, r = .val v σ ∧ ∀ τ, builtinA T τ .len ts args = some (.val v τ) := by
  rcases ts with _ | ⟨t, _ | ⟨t2, tr⟩⟩ <;> rcases args with _ | ⟨x, _ | ⟨y, yr⟩⟩ <;> first | (simp [builtinA] at h; done) | exact valS_pure h
theorem builtin_cap_read {ts : List TypeId} {args : List AV} {r : Nx} (h : builtinA T σ .cap ts args = some r) : ∃ v, r = .val v σ := by
  rcases ts with _ | ⟨t, _ | ⟨t2, tr⟩⟩ <;> rcases args with _ | ⟨x, _ | ⟨y, yr⟩⟩ <;> first | (simp [builtinA] at h; done) | (obtain ⟨v, h, _⟩ := valS_pure h; exact ⟨v, h⟩)

theorem opA_pure {env : Env} {op : Op} {r : Nx} (hc : clsA T op = 0) (h : opA T env σ op = some r) : ∃ v, r = .val v σ ∧ ∀ τ, opA T env τ op = some (.val v τ) := by
  cases op <;> first | (simp [clsA] at hc; done) | skip
  case load t x =>
    simp only [clsA] at hc
    have hp : pureLd T t x = true := by
      cases hp : pureLd T t x with
      | true => rfl
      | false => rw [hp] at hc; cases hc
    simp only [opA, hp, cond_true] at h ⊢
    cases hx : evo env x with
    | none => rw [hx] at h; cases h
    | some p => rw [hx] at h; exact valS_pure h
  case convert s d x =>
    simp only [opA] at h ⊢
    cases hx : evo env x with
    | none => rw [hx] at h; cases h
    | some a =>
      rw [hx] at h
      simp only [] at h ⊢
      unfold convA at h ⊢
      simp only [clsA] at hc
      cases hs : T.ty s with
      | none => rw [hs] at hc; simp at hc
      | some i =>
        cases hd : T.ty d with
        | none => rw [hs, hd] at hc; simp at hc
        | some j =>
          rw [hs, hd] at hc h
          simp only [] at hc h ⊢
          cases hi : i.k <;> cases hj : j.k <;> rw [hi, hj] at hc h <;> first | (simp at hc; done) | skip
          all_goals (try simp only [] at h ⊢) <;> (cases a <;> first | (cases h; done) | (cases h; exact ⟨_, rfl, fun _ => rfl⟩))
  case call c =>
    simp only [opA] at h ⊢
    simp only [clsA] at hc
    cases hcal : c.callee with
    | value f => rw [hcal] at hc; simp at hc
    | builtin b =>
      cases ha : evos env c.args.toList with
      | none => rw [hcal, ha] at h; cases h
      | some args =>
        rw [hcal, ha] at h
        rw [hcal] at hc
        cases b <;> first | (simp at hc; done) | exact builtin_len_pure h | exact valS_pure h
    | _ => rw [hcal] at hc; simp at hc
  all_goals
    simp only [opA] at h ⊢
    repeat' (first | (cases h; done) | exact valS_pure h | (cases h; exact ⟨_, rfl, fun _ => rfl⟩) | (split at h))

theorem opA_read {env : Env} {op : Op} {r : Nx} (hc : clsA T op = 1) (h : opA T env σ op = some r) : ∃ v, r = .val v σ := by
  cases op <;> first | (simp [clsA] at hc; done) | skip
  case load t x =>
    simp only [opA] at h
    cases hx : evo env x with
    | none => rw [hx] at h; cases h
    | some p => rw [hx] at h; obtain ⟨v, h, _⟩ := valS_pure h; exact ⟨v, h⟩
  case convert s d x =>
    simp only [clsA] at hc
    repeat' (split at hc)
    all_goals simp at hc
  case call c =>
    simp only [clsA] at hc
    simp only [opA] at h
    cases hcal : c.callee with
    | value f => rw [hcal] at hc; simp at hc
    | builtin b =>
      cases ha : evos env c.args.toList with
      | none => rw [hcal, ha] at h; cases h
      | some args =>
        rw [hcal, ha] at h
        rw [hcal] at hc
        cases b <;> first | (simp at hc; done) | exact builtin_cap_read h
    | _ => rw [hcal] at hc; simp at hc
  all_goals
    simp only [opA] at h
    repeat' (first | (cases h; done) | exact (valS_pure h).imp (fun _ q => q.1) | (split at h))

/-! ### Values that are seen to be the same -/
mutual
theorem eqv_sound : ∀ (a b : AV), a.eqv b = true → a = b
  | .int k n, b, h => by cases b <;> simp [AV.eqv] at h; simp [h]
  | .bool _, b, h => by cases b <;> simp [AV.eqv] at h; simp [h]
  | .str _, b, h => by cases b <;> simp [AV.eqv] at h; simp [h]
  | .lst len cs, b, h => by
    cases b <;> simp [AV.eqv] at h
    rw [h.1, eqvs_sound _ _ h.2]
  | .lp cs off, b, h => by
    cases b <;> simp [AV.eqv] at h
    rw [h.1, eqvs_sound _ _ h.2]
  | .sl .., b, h => by cases b <;> simp [AV.eqv] at h; simp [h]
  | .ptr .., b, h => by cases b <;> simp [AV.eqv] at h; simp [h]
  | .nilS, b, h => by cases b <;> simp [AV.eqv] at h; rfl
  | .nilP, b, h => by cases b <;> simp [AV.eqv] at h; rfl
  | .nilF, b, h => by cases b <;> simp [AV.eqv] at h; rfl
  | .nilI, b, h => by cases b <;> simp [AV.eqv] at h; rfl
  | .fn f a c, b, h => by
    cases b <;> simp [AV.eqv] at h
    rw [h.1.1, eqvs_sound _ _ h.1.2, eqvs_sound _ _ h.2]
  | .agg cs, b, h => by
    cases b <;> simp [AV.eqv] at h
    rw [eqvs_sound _ _ h]
  | .tup cs, b, h => by
    cases b <;> simp [AV.eqv] at h
    rw [eqvs_sound _ _ h]
  | .und, b, h => by cases b <;> simp [AV.eqv] at h
theorem eqvs_sound : ∀ (a b : List AV), eqvs a b = true → a = b
  | [], b, h => by cases b <;> simp [eqvs] at h; rfl
  | x :: r, b, h => by
    cases b <;> simp [eqvs] at h
    rw [eqv_sound _ _ h.1, eqvs_sound _ _ h.2]
end


/-! ### What is looked at once for all -/
def allB : Nat → (Nat → Bool) → Bool
  | 0, _ => true
  | n + 1, p => p n && allB n p

theorem allB_spec : ∀ {n : Nat} {p : Nat → Bool}, allB n p = true → ∀ i, i < n → p i = true
  | n + 1, p, h, i, hi => by
    simp only [allB, Bool.and_eq_true] at h
    by_cases he : i = n
    · rw [he]; exact h.1
    · exact allB_spec h.2 i (by omega)

theorem lstAt_eq {α : Type} : ∀ (l : List α) (i : Nat), lstAt l i = l[i]?
  | [], i => by simp [lstAt]
  | x :: r, 0 => rfl
  | x :: r, i + 1 => by simp [lstAt, lstAt_eq r i]

structure OI where
  dst : Option Nat
  looks : List Nat
  cls : Nat
  aft : List Nat

def oiOf (T : Tab) (ops : Array Oper) (o : Oper) : OI :=
  ⟨o.dst, o.looksAt ops, clsA T o.op, (o.after.toList.filter (Region.binds .any)).map (·.on)⟩

def memN (t : Nat) : List Nat → Bool
  | [] => false
  | x :: r => Nat.beq x t || memN t r

theorem memN_spec {t : Nat} : ∀ {l : List Nat}, t ∈ l → memN t l = true
  | x :: r, h => by
    simp only [List.mem_cons] at h
    simp only [memN, Bool.or_eq_true]
    rcases h with rfl | h
    · left; exact Nat.beq_refl _
    · right; exact memN_spec h

theorem of_memN {t : Nat} : ∀ {l : List Nat}, memN t l = true → t ∈ l
  | x :: r, h => by
    simp only [memN, Bool.or_eq_true] at h
    rcases h with h | h
    · simp [Nat.eq_of_beq_eq_true h]
    · simp [of_memN h]

def hits (d : Option Nat) (l : List Nat) : Bool :=
  match d with
  | some t => memN t l
  | none => false

def sameDst (a b : Option Nat) : Bool :=
  match a, b with
  | some x, some y => Nat.beq x y
  | _, _ => false

def confl (a b : OI) : Bool := hits a.dst b.looks || hits b.dst a.looks || sameDst a.dst b.dst

def memP (i j : Nat) : List (Nat × Nat) → Bool
  | [] => false
  | (a, b) :: r => (Nat.beq a i && Nat.beq b j) || memP i j r

theorem of_memP {i j : Nat} : ∀ {l : List (Nat × Nat)}, memP i j l = true → (i, j) ∈ l
  | (a, b) :: r, h => by
    simp only [memP, Bool.or_eq_true, Bool.and_eq_true] at h
    rcases h with h | h
    · simp [Nat.eq_of_beq_eq_true h.1, Nat.eq_of_beq_eq_true h.2]
    · simp [of_memP h]

def bitsOf (acc : List Nat) : List Nat → Nat
  | [] => 0
  | e :: r => Nat.lor (Nat.lor (2 ^ e) ((lstAt acc e).getD 0)) (bitsOf acc r)

def bfGo : List OI → List Nat → List Nat
  | [], acc => acc
  | o :: r, acc => bfGo r (acc ++ [bitsOf acc o.aft])

/-- Two operations, i before j by the text. -/
def pairChk (ps : List (Nat × Nat)) (bj i j : Nat) (a b : OI) : Bool :=
  bj.testBit i || (!confl a b && !(Nat.beq a.cls 2 && Nat.beq b.cls 2) && (!(Nat.beq a.cls 1 && Nat.beq b.cls 2) || memP i j ps) && (!(Nat.beq a.cls 2 && Nat.beq b.cls 1) || memP j i ps))

def aftChk (j : Nat) : List Nat → Bool
  | [] => true
  | e :: r => Nat.blt e j && aftChk j r

def bitFrom (bf : List Nat) (i : Nat) : List Nat → Bool
  | [] => false
  | e :: r => Nat.beq e i || (match lstAt bf e with | some b => Nat.blt i e && b.testBit i | none => false) || bitFrom bf i r

def oneChk (ois : List OI) (bf : List Nat) (ps : List (Nat × Nat)) (j : Nat) : Bool :=
  match lstAt ois j, lstAt bf j with
  | some oj, some bj => aftChk j oj.aft && allB j fun i => match lstAt ois i with
    | some oi => (!bj.testBit i || bitFrom bf i oj.aft) && pairChk ps bj i j oi oj
    | none => false
  | _, _ => false

def drawChk (n : Nat) (ois : List OI) (ps : List (Nat × Nat)) : Bool :=
  (fun bf => allB n fun j => oneChk ois bf ps j) (bfGo ois [])

def drawOK (T : Tab) (ops : Array Oper) (ps : List (Nat × Nat)) : Bool := drawChk ops.size (ops.toList.map (oiOf T ops)) ps

/-- What the look shows. -/
structure Ordered (T : Tab) (ops : Array Oper) (ps : List (Nat × Nat)) (R : Nat → Nat → Prop) : Prop where
  down : ∀ j o, ops[j]? = some o → ∀ e ∈ o.after, Region.binds .any e = true → e.on < j
  step : ∀ i j o, R i j → ops[j]? = some o → ∃ e ∈ o.after, Region.binds .any e = true ∧ (e.on = i ∨ R i e.on)
  w : ∀ i j a b t, ops[i]? = some a → ops[j]? = some b → i < j → a.dst = some t → (t ∈ b.looksAt ops ∨ b.dst = some t) → R i j
  r : ∀ i j a b t, ops[i]? = some a → ops[j]? = some b → i < j → b.dst = some t → t ∈ a.looksAt ops → R i j
  ee : ∀ i j a b, ops[i]? = some a → ops[j]? = some b → i < j → clsA T a.op = 2 → clsA T b.op = 2 → R i j
  re : ∀ i j a b, ops[i]? = some a → ops[j]? = some b → i < j → clsA T a.op = 1 → clsA T b.op = 2 → R i j ∨ (i, j) ∈ ps
  er : ∀ i j a b, ops[i]? = some a → ops[j]? = some b → i < j → clsA T a.op = 2 → clsA T b.op = 1 → R i j ∨ (j, i) ∈ ps

theorem aftChk_spec {j : Nat} : ∀ {l : List Nat}, aftChk j l = true → ∀ e ∈ l, e < j
  | x :: r, h, e, he => by
    simp only [aftChk, Bool.and_eq_true] at h
    rcases List.mem_cons.1 he with rfl | he
    · exact Nat.le_of_ble_eq_true h.1
    · exact aftChk_spec h.2 e he

theorem bitFrom_spec {bf : List Nat} {i : Nat} : ∀ {l : List Nat}, bitFrom bf i l = true → ∃ e ∈ l, e = i ∨ (i < e ∧ ∃ b, lstAt bf e = some b ∧ b.testBit i = true)
  | x :: r, h => by
    simp only [bitFrom, Bool.or_eq_true] at h
    rcases h with (h | h) | h
    · exact ⟨x, by simp, .inl (Nat.eq_of_beq_eq_true h)⟩
    · split at h
      · rename_i b hb
        simp only [Bool.and_eq_true] at h
        exact ⟨x, by simp, .inr ⟨Nat.le_of_ble_eq_true h.1, b, hb, h.2⟩⟩
      · cases h
    · obtain ⟨e, h1, h2⟩ := bitFrom_spec h
      exact ⟨e, by simp [h1], h2⟩

theorem drawOK_spec {ops : Array Oper} {ps : List (Nat × Nat)} (h : drawOK T ops ps = true) : ∃ R, Ordered T ops ps R := by
  unfold drawOK drawChk at h
  generalize bfGo (ops.toList.map (oiOf T ops)) [] = bf at h
  have hall := allB_spec h
  have hat : ∀ i o, ops[i]? = some o → lstAt (ops.toList.map (oiOf T ops)) i = some (oiOf T ops o) := by
    intro i o ho
    rw [lstAt_eq]; simp [ho]
  have hlt : ∀ i o, ops[i]? = some o → i < ops.size := fun i o ho => (Array.getElem?_eq_some_iff.1 ho).1
  have one : ∀ j b, ops[j]? = some b → ∃ bj, lstAt bf j = some bj ∧ aftChk j (oiOf T ops b).aft = true ∧ ∀ i a, i < j → ops[i]? = some a → (!bj.testBit i || bitFrom bf i (oiOf T ops b).aft) = true ∧ pairChk ps bj i j (oiOf T ops a) (oiOf T ops b) = true := by
    intro j b hb
    have h1 := hall j (hlt j b hb)
    unfold oneChk at h1
    rw [hat j b hb] at h1
    split at h1
    case h_2 => cases h1
    rename_i oj bj e1 e2
    cases e1
    simp only [Bool.and_eq_true] at h1
    refine ⟨bj, e2, h1.1, fun i a hi ha => ?_⟩
    have h2 := allB_spec h1.2 i hi
    rw [hat i a ha] at h2
    simpa using h2
  have haft : ∀ b e, e ∈ (oiOf T ops b).aft ↔ ∃ x ∈ b.after, Region.binds .any x = true ∧ x.on = e := by
    intro b e
    simp only [oiOf, List.mem_map, List.mem_filter]
    constructor
    · rintro ⟨x, ⟨h1, h2⟩, h3⟩; exact ⟨x, by simpa using h1, h2, h3⟩
    · rintro ⟨x, h1, h2, h3⟩; exact ⟨x, ⟨by simpa using h1, h2⟩, h3⟩
  have pc : ∀ i j a b, ops[i]? = some a → ops[j]? = some b → i < j → (∃ bj, lstAt bf j = some bj ∧ bj.testBit i = true) ∨
      ((¬ confl (oiOf T ops a) (oiOf T ops b) = true) ∧ (¬ (clsA T a.op = 2 ∧ clsA T b.op = 2)) ∧ (clsA T a.op = 1 → clsA T b.op = 2 → (i, j) ∈ ps) ∧ (clsA T a.op = 2 → clsA T b.op = 1 → (j, i) ∈ ps)) := by
    intro i j a b ha hb hij
    obtain ⟨bj, h1, h2, h3⟩ := one j b hb
    obtain ⟨h4, h5⟩ := h3 i a hij ha
    unfold pairChk at h5
    simp only [Bool.or_eq_true, Bool.and_eq_true, Bool.not_eq_true', Bool.and_eq_false_iff] at h5
    rcases h5 with h5 | ⟨⟨⟨h5, h6⟩, h7⟩, h8⟩
    · exact .inl ⟨bj, h1, h5⟩
    · have bt : ∀ (x y : Nat), x = y → Nat.beq x y = true := fun x y e => by subst e; exact Nat.beq_refl _
      refine .inr ⟨by simp [h5], ?_, ?_, ?_⟩
      · rintro ⟨p, q⟩
        rcases h6 with h6 | h6
        · rw [show (oiOf T ops a).cls.beq 2 = true from bt _ _ p] at h6; cases h6
        · rw [show (oiOf T ops b).cls.beq 2 = true from bt _ _ q] at h6; cases h6
      · intro p q
        rcases h7 with (h7 | h7) | h7
        · rw [show (oiOf T ops a).cls.beq 1 = true from bt _ _ p] at h7; cases h7
        · rw [show (oiOf T ops b).cls.beq 2 = true from bt _ _ q] at h7; cases h7
        · exact of_memP h7
      · intro p q
        rcases h8 with (h8 | h8) | h8
        · rw [show (oiOf T ops a).cls.beq 2 = true from bt _ _ p] at h8; cases h8
        · rw [show (oiOf T ops b).cls.beq 1 = true from bt _ _ q] at h8; cases h8
        · exact of_memP h8
  refine ⟨fun i j => i < j ∧ ∃ bj, lstAt bf j = some bj ∧ bj.testBit i = true, ?_, ?_, ?_, ?_, ?_, ?_, ?_⟩
  · intro j b hb e he hbd
    obtain ⟨bj, h1, h2, h3⟩ := one j b hb
    exact aftChk_spec h2 _ ((haft b e.on).2 ⟨e, he, hbd, rfl⟩)
  · rintro i j b ⟨hij, bj, h1, h2⟩ hb
    obtain ⟨bj', k1, k2, k3⟩ := one j b hb
    rw [h1] at k1; cases k1
    have hi : i < ops.size := Nat.lt_trans hij (hlt j b hb)
    obtain ⟨h4, _⟩ := k3 i ops[i] hij (by simp [hi])
    rw [h2] at h4
    simp only [Bool.not_true, Bool.false_or] at h4
    obtain ⟨e, he, h5⟩ := bitFrom_spec h4
    obtain ⟨x, p1, p2, p3⟩ := (haft b e).1 he
    refine ⟨x, p1, p2, ?_⟩
    rw [p3]
    rcases h5 with h5 | h5
    · exact .inl h5
    · exact .inr h5
  · intro i j a b t ha hb hij hd ht
    rcases pc i j a b ha hb hij with h | ⟨h1, _⟩
    · exact ⟨hij, h⟩
    · refine (h1 ?_).elim
      simp only [confl, oiOf, hd, hits, Bool.or_eq_true]
      rcases ht with ht | ht
      · exact .inl (.inl (memN_spec ht))
      · exact .inr (by rw [ht]; exact Nat.beq_refl _)
  · intro i j a b t ha hb hij hd ht
    rcases pc i j a b ha hb hij with h | ⟨h1, _⟩
    · exact ⟨hij, h⟩
    · refine (h1 ?_).elim
      simp only [confl, oiOf, hd, hits, Bool.or_eq_true]
      exact .inl (.inr (memN_spec ht))
  · intro i j a b ha hb hij p q
    rcases pc i j a b ha hb hij with h | ⟨_, h1, _⟩
    · exact ⟨hij, h⟩
    · exact (h1 ⟨p, q⟩).elim
  · intro i j a b ha hb hij p q
    rcases pc i j a b ha hb hij with h | ⟨_, _, h1, _⟩
    · exact .inl ⟨hij, h⟩
    · exact .inr (h1 p q)
  · intro i j a b ha hb hij p q
    rcases pc i j a b ha hb hij with h | ⟨_, _, _, h1⟩
    · exact .inl ⟨hij, h⟩
    · exact .inr (h1 p q)

end Go.Abs
