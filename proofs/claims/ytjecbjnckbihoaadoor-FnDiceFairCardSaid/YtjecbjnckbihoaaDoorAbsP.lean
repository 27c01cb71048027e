/- Tables that are looked up, and what makes them sound. Nothing is claimed here; no condition. -/
import Derived.Test.YtjecbjnckbihoaaDoorAbsOf
namespace Go.Abs
open Go

variable {P : Program} {T : Tab} {Z Zc : Fz} {φ : Nat → Pl} {σ σ' : St} {w w' : World}

/-- A tree that is searched. -/
inductive Tr (α : Type) where
  | lf
  | nd (k : Nat) (v : α) (l r : Tr α)

def Tr.get {α : Type} : Tr α → Nat → Option α
  | .lf, _ => none
  | .nd k v l r, t => bif Nat.beq t k then some v else bif Nat.blt t k then l.get t else r.get t

def Tr.map {α β : Type} (f : Nat → α → β) : Tr α → Tr β
  | .lf => .lf
  | .nd k v l r => .nd k (f k v) (l.map f) (r.map f)

def Tr.all {α : Type} (p : Nat → α → Bool) : Tr α → Bool
  | .lf => true
  | .nd k v l r => p k v && l.all p && r.all p

theorem Tr.get_nd {α : Type} {k : Nat} {v x : α} {l r : Tr α} {t : Nat} (h : (Tr.nd k v l r).get t = some x) : (t = k ∧ x = v) ∨ l.get t = some x ∨ r.get t = some x := by
  simp only [Tr.get] at h
  cases hb : Nat.beq t k with
  | true => rw [hb] at h; cases h; exact .inl ⟨Nat.eq_of_beq_eq_true hb, rfl⟩
  | false =>
    rw [hb] at h
    simp only [cond_false] at h
    cases hc : Nat.blt t k with
    | true => rw [hc] at h; exact .inr (.inl h)
    | false => rw [hc] at h; exact .inr (.inr h)

theorem Tr.all_get {α : Type} {p : Nat → α → Bool} : ∀ {tr : Tr α}, tr.all p = true → ∀ {t : Nat} {x : α}, tr.get t = some x → p t x = true
  | .lf, _, t, x, h => by cases h
  | .nd k v l r, ha, t, x, h => by
    simp only [Tr.all, Bool.and_eq_true] at ha
    rcases Tr.get_nd h with ⟨rfl, rfl⟩ | h | h
    · exact ha.1.1
    · exact Tr.all_get ha.1.2 h
    · exact Tr.all_get ha.2 h

theorem Tr.map_get {α β : Type} {f g : Nat → α → β} : ∀ {tr : Tr α}, tr.map f = tr.map g → ∀ {t : Nat} {x : α}, tr.get t = some x → f t x = g t x
  | .lf, _, t, x, h => by cases h
  | .nd k v l r, ha, t, x, h => by
    simp only [Tr.map, Tr.nd.injEq] at ha
    rcases Tr.get_nd h with ⟨rfl, rfl⟩ | h | h
    · exact ha.2.1
    · exact Tr.map_get ha.2.2.1 h
    · exact Tr.map_get ha.2.2.2 h

/-- Nothing is known beside the texts. -/
def noExt : FuncId → List AV → St → Option (AV × St) := fun _ _ _ => none
theorem noExt_ok : CallOK P noExt := fun _ _ _ _ _ h => by cases h
def tabOf (ty : Tr TyI) (fn : Tr Func) (an : Tr Ann) (ext : FuncId → List AV → St → Option (AV × St) := noExt) : Tab := { ty := ty.get, fn := fn.get, an := fun f => (an.get f).getD {}, ext := ext }

def regChk (T : Tab) (ops : Array Oper) : List (Nat × Nat) → Bool
  | [] => drawOK T ops []
  | p :: ps => nif p.1 1000000 (fenceOK T ops (twoOf ps) (latOf ps) (prsOf ps)) (drawOK T ops (p :: ps))

theorem regChk_ok (hm : P.follows .mixedOrders = true) (hT : TyT P T) {fi : FI} {id : Nat} {ops : Array Oper} (h : regChk T ops (pairsOf fi.dyn id) = true) : RegOK P T fi id ops true := by
  cases hp : pairsOf fi.dyn id with
  | nil => exact regOK_drawn hm hT (by rw [hp]; rfl) (by rw [hp] at h ⊢; exact h)
  | cons p ps =>
    rw [hp] at h
    simp only [regChk, nif_eq] at h
    by_cases hq : p.1 = 1000000
    · rw [if_pos hq] at h
      exact regOK_fence hm hT hq hp h
    · rw [if_neg hq] at h
      refine regOK_drawn hm hT ?_ (by rw [hp]; exact h)
      rw [hp]
      cases hx : isF (p :: ps) with
      | false => rfl
      | true => exact (hq (Nat.eq_of_beq_eq_true hx)).elim

def codeChk (T : Tab) (fi : FI) : Code → Bool
  | .region id ops true => regChk T ops (pairsOf fi.dyn id)
  | .seq a b => codeChk T fi a && codeChk T fi b
  | .cond _ a b => codeChk T fi a && codeChk T fi b
  | .block _ a => codeChk T fi a
  | .loop a => codeChk T fi a
  | _ => true

theorem codeChk_ok (hm : P.follows .mixedOrders = true) (hT : TyT P T) {fi : FI} : ∀ {c : Code}, codeChk T fi c = true → CodeOK P T fi c
  | .region id ops true, h => regChk_ok hm hT h
  | .region id ops false, _ => regOK_plain hT
  | .seq a b, h => by simp only [codeChk, Bool.and_eq_true] at h; exact ⟨codeChk_ok hm hT h.1, codeChk_ok hm hT h.2⟩
  | .cond _ a b, h => by simp only [codeChk, Bool.and_eq_true] at h; exact ⟨codeChk_ok hm hT h.1, codeChk_ok hm hT h.2⟩
  | .block _ a, h => codeChk_ok (c := a) hm hT h
  | .loop a, h => codeChk_ok (c := a) hm hT h
  | .skip, _ => trivial
  | .rangeFunc .., _ => trivial
  | .exit _, _ => trivial
  | .ret, _ => trivial
  | .scope _, _ => trivial
  | .goto _, _ => trivial
  | .label _, _ => trivial
  | .refuse _, _ => trivial

/-- Is a function one that the machine enters? -/
def entersF (F : Func) : Bool := F.body.isSome && !(F.name == "runtime.NumGoroutine")

theorem callFunc_enter {f : FuncId} {F : Func} (hf : P.funcs[f]? = some F) (h : entersF F = true) (us : Array Value) (w : World) : (callFunc f us).run P w = .ok (.enter f us) w := by
  simp only [entersF, Bool.and_eq_true, Bool.not_eq_true'] at h
  unfold callFunc
  have hp : (program).run P w = .ok P w := rfl
  simp only [Sem.run_bind, hp, Result.andThen_ok, hf]
  rw [if_neg (by simp [h.2]), if_neg (by cases hb : F.body <;> simp [hb] at h ⊢)]
  rfl

theorem tab_ok {ty : Tr TyI} {fn : Tr Func} {an : Tr Ann} {ext : FuncId → List AV → St → Option (AV × St)} (hm : P.follows .mixedOrders = true) (hty : (ty.map fun t _ => tyOf P t) = ty.map fun _ i => some i) (hfn : (fn.map fun f _ => P.funcs[f]?) = fn.map fun _ F => some F)
    (hen : (fn.all fun _ F => entersF F) = true)
    (hc : (fn.all fun f F => match F.body with | some c => codeChk (tabOf ty fn an ext) (FI.of F ((tabOf ty fn an ext).an f)) c | none => true) = true) (hx : CallOK P ext) : TabOK P (tabOf ty fn an ext) := by
  have hT : TyT P (tabOf ty fn an ext) := fun t i h => Tr.map_get hty h
  refine ⟨hT, fun f F h => Tr.map_get hfn h, fun f F h us w => callFunc_enter (Tr.map_get hfn h) (Tr.all_get hen h) us w, fun f F c h hb => ?_, hx⟩
  have := Tr.all_get hc h
  rw [hb] at this
  exact codeChk_ok hm hT this

end Go.Abs
