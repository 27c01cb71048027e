/- The interpreter once more, in a form that the kernel reckons faster: the slots in a tree, what is fixed by the text looked at once. Nothing is claimed here; no condition. -/
import Derived.Test.YtjecbjnckbihoaaDoorAbsQ
namespace Go.Abs
open Go

/-! ### Sixteen at once -/
inductive N16 (α : Type) where
  | mk (a0 a1 a2 a3 a4 a5 a6 a7 a8 a9 a10 a11 a12 a13 a14 a15 : α)

namespace N16
variable {α : Type}
def rep (x : α) : N16 α := .mk x x x x x x x x x x x x x x x x

def sel (i : Nat) (n : N16 α) : α :=
  match i, n with
  | 0, .mk a _ _ _ _ _ _ _ _ _ _ _ _ _ _ _ => a
  | 1, .mk _ a _ _ _ _ _ _ _ _ _ _ _ _ _ _ => a
  | 2, .mk _ _ a _ _ _ _ _ _ _ _ _ _ _ _ _ => a
  | 3, .mk _ _ _ a _ _ _ _ _ _ _ _ _ _ _ _ => a
  | 4, .mk _ _ _ _ a _ _ _ _ _ _ _ _ _ _ _ => a
  | 5, .mk _ _ _ _ _ a _ _ _ _ _ _ _ _ _ _ => a
  | 6, .mk _ _ _ _ _ _ a _ _ _ _ _ _ _ _ _ => a
  | 7, .mk _ _ _ _ _ _ _ a _ _ _ _ _ _ _ _ => a
  | 8, .mk _ _ _ _ _ _ _ _ a _ _ _ _ _ _ _ => a
  | 9, .mk _ _ _ _ _ _ _ _ _ a _ _ _ _ _ _ => a
  | 10, .mk _ _ _ _ _ _ _ _ _ _ a _ _ _ _ _ => a
  | 11, .mk _ _ _ _ _ _ _ _ _ _ _ a _ _ _ _ => a
  | 12, .mk _ _ _ _ _ _ _ _ _ _ _ _ a _ _ _ => a
  | 13, .mk _ _ _ _ _ _ _ _ _ _ _ _ _ a _ _ => a
  | 14, .mk _ _ _ _ _ _ _ _ _ _ _ _ _ _ a _ => a
  | _, .mk _ _ _ _ _ _ _ _ _ _ _ _ _ _ _ a => a

def upd (i : Nat) (x : α) (n : N16 α) : N16 α :=
  match i, n with
  | 0, .mk _ a1 a2 a3 a4 a5 a6 a7 a8 a9 a10 a11 a12 a13 a14 a15 => .mk x a1 a2 a3 a4 a5 a6 a7 a8 a9 a10 a11 a12 a13 a14 a15
  | 1, .mk a0 _ a2 a3 a4 a5 a6 a7 a8 a9 a10 a11 a12 a13 a14 a15 => .mk a0 x a2 a3 a4 a5 a6 a7 a8 a9 a10 a11 a12 a13 a14 a15
  | 2, .mk a0 a1 _ a3 a4 a5 a6 a7 a8 a9 a10 a11 a12 a13 a14 a15 => .mk a0 a1 x a3 a4 a5 a6 a7 a8 a9 a10 a11 a12 a13 a14 a15
  | 3, .mk a0 a1 a2 _ a4 a5 a6 a7 a8 a9 a10 a11 a12 a13 a14 a15 => .mk a0 a1 a2 x a4 a5 a6 a7 a8 a9 a10 a11 a12 a13 a14 a15
  | 4, .mk a0 a1 a2 a3 _ a5 a6 a7 a8 a9 a10 a11 a12 a13 a14 a15 => .mk a0 a1 a2 a3 x a5 a6 a7 a8 a9 a10 a11 a12 a13 a14 a15
  | 5, .mk a0 a1 a2 a3 a4 _ a6 a7 a8 a9 a10 a11 a12 a13 a14 a15 => .mk a0 a1 a2 a3 a4 x a6 a7 a8 a9 a10 a11 a12 a13 a14 a15
  | 6, .mk a0 a1 a2 a3 a4 a5 _ a7 a8 a9 a10 a11 a12 a13 a14 a15 => .mk a0 a1 a2 a3 a4 a5 x a7 a8 a9 a10 a11 a12 a13 a14 a15
  | 7, .mk a0 a1 a2 a3 a4 a5 a6 _ a8 a9 a10 a11 a12 a13 a14 a15 => .mk a0 a1 a2 a3 a4 a5 a6 x a8 a9 a10 a11 a12 a13 a14 a15
  | 8, .mk a0 a1 a2 a3 a4 a5 a6 a7 _ a9 a10 a11 a12 a13 a14 a15 => .mk a0 a1 a2 a3 a4 a5 a6 a7 x a9 a10 a11 a12 a13 a14 a15
  | 9, .mk a0 a1 a2 a3 a4 a5 a6 a7 a8 _ a10 a11 a12 a13 a14 a15 => .mk a0 a1 a2 a3 a4 a5 a6 a7 a8 x a10 a11 a12 a13 a14 a15
  | 10, .mk a0 a1 a2 a3 a4 a5 a6 a7 a8 a9 _ a11 a12 a13 a14 a15 => .mk a0 a1 a2 a3 a4 a5 a6 a7 a8 a9 x a11 a12 a13 a14 a15
  | 11, .mk a0 a1 a2 a3 a4 a5 a6 a7 a8 a9 a10 _ a12 a13 a14 a15 => .mk a0 a1 a2 a3 a4 a5 a6 a7 a8 a9 a10 x a12 a13 a14 a15
  | 12, .mk a0 a1 a2 a3 a4 a5 a6 a7 a8 a9 a10 a11 _ a13 a14 a15 => .mk a0 a1 a2 a3 a4 a5 a6 a7 a8 a9 a10 a11 x a13 a14 a15
  | 13, .mk a0 a1 a2 a3 a4 a5 a6 a7 a8 a9 a10 a11 a12 _ a14 a15 => .mk a0 a1 a2 a3 a4 a5 a6 a7 a8 a9 a10 a11 a12 x a14 a15
  | 14, .mk a0 a1 a2 a3 a4 a5 a6 a7 a8 a9 a10 a11 a12 a13 _ a15 => .mk a0 a1 a2 a3 a4 a5 a6 a7 a8 a9 a10 a11 a12 a13 x a15
  | _, .mk a0 a1 a2 a3 a4 a5 a6 a7 a8 a9 a10 a11 a12 a13 a14 _ => .mk a0 a1 a2 a3 a4 a5 a6 a7 a8 a9 a10 a11 a12 a13 a14 x

theorem case16 {p : Nat → Prop} (h0 : p 0) (h1 : p 1) (h2 : p 2) (h3 : p 3) (h4 : p 4) (h5 : p 5) (h6 : p 6) (h7 : p 7) (h8 : p 8) (h9 : p 9) (h10 : p 10) (h11 : p 11) (h12 : p 12) (h13 : p 13) (h14 : p 14) (h15 : p 15) : ∀ i, i < 16 → p i
  | 0, _ => h0 | 1, _ => h1 | 2, _ => h2 | 3, _ => h3 | 4, _ => h4 | 5, _ => h5 | 6, _ => h6 | 7, _ => h7 | 8, _ => h8 | 9, _ => h9 | 10, _ => h10 | 11, _ => h11 | 12, _ => h12 | 13, _ => h13 | 14, _ => h14 | 15, _ => h15
  | n + 16, h => by omega

def toL : N16 α → List α
  | .mk a0 a1 a2 a3 a4 a5 a6 a7 a8 a9 a10 a11 a12 a13 a14 a15 => [a0, a1, a2, a3, a4, a5, a6, a7, a8, a9, a10, a11, a12, a13, a14, a15]

theorem sel_toL (n : N16 α) : ∀ i, i < 16 → n.toL[i]? = some (sel i n) := by
  cases n
  apply case16 <;> rfl
theorem upd_toL (n : N16 α) (x : α) : ∀ i, i < 16 → (upd i x n).toL = n.toL.set i x := by
  cases n
  apply case16 <;> rfl

theorem sel_upd (n : N16 α) (x : α) {i j : Nat} (hi : i < 16) (hj : j < 16) : sel i (upd j x n) = if j = i then x else sel i n := by
  have h := sel_toL (upd j x n) i hi
  rw [upd_toL n x j hj, List.getElem?_set] at h
  have hl : n.toL.length = 16 := by cases n; rfl
  split at h
  · rename_i he
    rw [if_pos (by omega)] at h
    rw [if_pos he]
    exact (Option.some.inj h).symm
  · rename_i he
    rw [sel_toL n i hi] at h
    rw [if_neg he]
    exact (Option.some.inj h).symm

theorem sel_rep (x : α) : ∀ i, i < 16 → sel i (rep x) = x := by
  apply case16 <;> rfl
end N16

structure S16 (α : Type) where
  sel : N16 α → α
  upd : α → N16 α → N16 α

/-- One of the sixteen, looked for once. -/
def s16 {α : Type} : Nat → S16 α
  | 0 => ⟨fun n => match n with | .mk a _ _ _ _ _ _ _ _ _ _ _ _ _ _ _ => a, fun x n => match n with | .mk _ a1 a2 a3 a4 a5 a6 a7 a8 a9 a10 a11 a12 a13 a14 a15 => .mk x a1 a2 a3 a4 a5 a6 a7 a8 a9 a10 a11 a12 a13 a14 a15⟩
  | 1 => ⟨fun n => match n with | .mk _ a _ _ _ _ _ _ _ _ _ _ _ _ _ _ => a, fun x n => match n with | .mk a0 _ a2 a3 a4 a5 a6 a7 a8 a9 a10 a11 a12 a13 a14 a15 => .mk a0 x a2 a3 a4 a5 a6 a7 a8 a9 a10 a11 a12 a13 a14 a15⟩
  | 2 => ⟨fun n => match n with | .mk _ _ a _ _ _ _ _ _ _ _ _ _ _ _ _ => a, fun x n => match n with | .mk a0 a1 _ a3 a4 a5 a6 a7 a8 a9 a10 a11 a12 a13 a14 a15 => .mk a0 a1 x a3 a4 a5 a6 a7 a8 a9 a10 a11 a12 a13 a14 a15⟩
  | 3 => ⟨fun n => match n with | .mk _ _ _ a _ _ _ _ _ _ _ _ _ _ _ _ => a, fun x n => match n with | .mk a0 a1 a2 _ a4 a5 a6 a7 a8 a9 a10 a11 a12 a13 a14 a15 => .mk a0 a1 a2 x a4 a5 a6 a7 a8 a9 a10 a11 a12 a13 a14 a15⟩
  | 4 => ⟨fun n => match n with | .mk _ _ _ _ a _ _ _ _ _ _ _ _ _ _ _ => a, fun x n => match n with | .mk a0 a1 a2 a3 _ a5 a6 a7 a8 a9 a10 a11 a12 a13 a14 a15 => .mk a0 a1 a2 a3 x a5 a6 a7 a8 a9 a10 a11 a12 a13 a14 a15⟩
  | 5 => ⟨fun n => match n with | .mk _ _ _ _ _ a _ _ _ _ _ _ _ _ _ _ => a, fun x n => match n with | .mk a0 a1 a2 a3 a4 _ a6 a7 a8 a9 a10 a11 a12 a13 a14 a15 => .mk a0 a1 a2 a3 a4 x a6 a7 a8 a9 a10 a11 a12 a13 a14 a15⟩
  | 6 => ⟨fun n => match n with | .mk _ _ _ _ _ _ a _ _ _ _ _ _ _ _ _ => a, fun x n => match n with | .mk a0 a1 a2 a3 a4 a5 _ a7 a8 a9 a10 a11 a12 a13 a14 a15 => .mk a0 a1 a2 a3 a4 a5 x a7 a8 a9 a10 a11 a12 a13 a14 a15⟩
  | 7 => ⟨fun n => match n with | .mk _ _ _ _ _ _ _ a _ _ _ _ _ _ _ _ => a, fun x n => match n with | .mk a0 a1 a2 a3 a4 a5 a6 _ a8 a9 a10 a11 a12 a13 a14 a15 => .mk a0 a1 a2 a3 a4 a5 a6 x a8 a9 a10 a11 a12 a13 a14 a15⟩
  | 8 => ⟨fun n => match n with | .mk _ _ _ _ _ _ _ _ a _ _ _ _ _ _ _ => a, fun x n => match n with | .mk a0 a1 a2 a3 a4 a5 a6 a7 _ a9 a10 a11 a12 a13 a14 a15 => .mk a0 a1 a2 a3 a4 a5 a6 a7 x a9 a10 a11 a12 a13 a14 a15⟩
  | 9 => ⟨fun n => match n with | .mk _ _ _ _ _ _ _ _ _ a _ _ _ _ _ _ => a, fun x n => match n with | .mk a0 a1 a2 a3 a4 a5 a6 a7 a8 _ a10 a11 a12 a13 a14 a15 => .mk a0 a1 a2 a3 a4 a5 a6 a7 a8 x a10 a11 a12 a13 a14 a15⟩
  | 10 => ⟨fun n => match n with | .mk _ _ _ _ _ _ _ _ _ _ a _ _ _ _ _ => a, fun x n => match n with | .mk a0 a1 a2 a3 a4 a5 a6 a7 a8 a9 _ a11 a12 a13 a14 a15 => .mk a0 a1 a2 a3 a4 a5 a6 a7 a8 a9 x a11 a12 a13 a14 a15⟩
  | 11 => ⟨fun n => match n with | .mk _ _ _ _ _ _ _ _ _ _ _ a _ _ _ _ => a, fun x n => match n with | .mk a0 a1 a2 a3 a4 a5 a6 a7 a8 a9 a10 _ a12 a13 a14 a15 => .mk a0 a1 a2 a3 a4 a5 a6 a7 a8 a9 a10 x a12 a13 a14 a15⟩
  | 12 => ⟨fun n => match n with | .mk _ _ _ _ _ _ _ _ _ _ _ _ a _ _ _ => a, fun x n => match n with | .mk a0 a1 a2 a3 a4 a5 a6 a7 a8 a9 a10 a11 _ a13 a14 a15 => .mk a0 a1 a2 a3 a4 a5 a6 a7 a8 a9 a10 a11 x a13 a14 a15⟩
  | 13 => ⟨fun n => match n with | .mk _ _ _ _ _ _ _ _ _ _ _ _ _ a _ _ => a, fun x n => match n with | .mk a0 a1 a2 a3 a4 a5 a6 a7 a8 a9 a10 a11 a12 _ a14 a15 => .mk a0 a1 a2 a3 a4 a5 a6 a7 a8 a9 a10 a11 a12 x a14 a15⟩
  | 14 => ⟨fun n => match n with | .mk _ _ _ _ _ _ _ _ _ _ _ _ _ _ a _ => a, fun x n => match n with | .mk a0 a1 a2 a3 a4 a5 a6 a7 a8 a9 a10 a11 a12 a13 _ a15 => .mk a0 a1 a2 a3 a4 a5 a6 a7 a8 a9 a10 a11 a12 a13 x a15⟩
  | _ => ⟨fun n => match n with | .mk _ _ _ _ _ _ _ _ _ _ _ _ _ _ _ a => a, fun x n => match n with | .mk a0 a1 a2 a3 a4 a5 a6 a7 a8 a9 a10 a11 a12 a13 a14 _ => .mk a0 a1 a2 a3 a4 a5 a6 a7 a8 a9 a10 a11 a12 a13 a14 x⟩

theorem s16_sel {α : Type} (n : N16 α) : ∀ i, i < 16 → (s16 i).sel n = N16.sel i n := by
  cases n
  apply N16.case16 <;> rfl
theorem s16_upd {α : Type} (x : α) (n : N16 α) : ∀ i, i < 16 → (s16 i).upd x n = N16.upd i x n := by
  cases n
  apply N16.case16 <;> rfl

abbrev N2 := N16 (N16 AV)

def getN (E : N2) (t : Nat) : AV := N16.sel (t % 16) (N16.sel (t / 16) E)
def putN2 (t : Nat) (v : AV) (E : N2) : N2 := N16.upd (t / 16) (N16.upd (t % 16) v (N16.sel (t / 16) E)) E
theorem sel2_eq (E : N2) (t : Nat) (h : t < 256) : (s16 (t % 16)).sel ((s16 (t / 16)).sel E) = getN E t := by
  rw [s16_sel _ (t % 16) (by omega), s16_sel _ (t / 16) (by omega)]; rfl
theorem upd2_eq (E : N2) (t : Nat) (v : AV) (h : t < 256) : (s16 (t / 16)).upd ((s16 (t % 16)).upd v ((s16 (t / 16)).sel E)) E = putN2 t v E := by
  rw [s16_upd _ _ (t / 16) (by omega), s16_upd _ _ (t % 16) (by omega), s16_sel _ (t / 16) (by omega)]; rfl
def noSlots : N2 := N16.rep (N16.rep .und)

theorem getN_put {E : N2} {s t : Nat} {v : AV} (hs : s < 256) (ht : t < 256) : getN (putN2 t v E) s = if t = s then v else getN E s := by
  unfold getN putN2
  rw [N16.sel_upd _ _ (by omega) (by omega)]
  by_cases hq : t / 16 = s / 16
  · rw [if_pos hq, N16.sel_upd _ _ (by omega) (by omega), hq]
    by_cases hr : t % 16 = s % 16
    · rw [if_pos hr, if_pos (by omega)]
    · rw [if_neg hr, if_neg (by omega)]
  · rw [if_neg hq, if_neg (by intro e; exact hq (by rw [e]))]

/-- The slots of the tree are among those of the list. -/
def RelE (E : N2) (env : Env) : Prop := ∀ t, t < 256 → getN E t ≠ .und → lk env t = some (getN E t)

theorem RelE_none : RelE noSlots [] := by
  intro t ht h
  refine (h ?_).elim
  unfold getN noSlots
  rw [N16.sel_rep _ _ (by omega), N16.sel_rep _ _ (by omega)]

abbrev Ro := Option (AV × St)
abbrev CallT := FuncId → List AV → St → Option (AV × St)

/-! ### What is known of a text -/
structure FX where
  get : N2 → (AV → Ro) → Ro

def forceV (v : AV) (k : AV → Ro) : Ro :=
  match v with
  | .int kk n => match n with
    | .ofNat m => k (.int kk (.ofNat m))
    | .negSucc m => k (.int kk (.negSucc m))
  | .bool b => match b with
    | true => k (.bool true)
    | false => k (.bool false)
  | .sl b o l c => k (.sl b o l c)
  | .ptr b o => k (.ptr b o)
  | v => k v

theorem forceV_eq (v : AV) (k : AV → Ro) : forceV v k = k v := by
  unfold forceV
  split
  · split <;> rfl
  · split <;> rfl
  · rfl
  · rfl
  · rfl

def seen (v : AV) (k : AV → Ro) : Ro :=
  match v with
  | .int kk n => k (.int kk n)
  | .bool b => k (.bool b)
  | .sl b o l c => k (.sl b o l c)
  | .ptr b o => k (.ptr b o)
  | .und => none
  | v => k v

theorem seen_some {v : AV} {k : AV → Ro} {r : AV × St} (h : seen v k = some r) : v ≠ .und ∧ k v = some r := by
  unfold seen at h
  split at h
  · exact ⟨by simp, h⟩
  · exact ⟨by simp, h⟩
  · exact ⟨by simp, h⟩
  · exact ⟨by simp, h⟩
  · cases h
  · rename_i hn; exact ⟨fun e => hn e, h⟩

def fx : Operand → FX
  | .tmp t => bif Nat.blt t 256 then (match s16 (t / 16), s16 (t % 16) with | ⟨f, _⟩, ⟨g, _⟩ => ⟨fun E k => seen (g (f E)) k⟩) else ⟨fun _ _ => none⟩
  | .const v => match ofConst v with
    | some c => ⟨fun _ k => k c⟩
    | none => ⟨fun _ _ => none⟩
  | .global _ => ⟨fun _ _ => none⟩
  | .func f => ⟨fun _ k => k (.fn f [] [])⟩

theorem fx_ok {E : N2} {env : Env} (hR : RelE E env) {x : Operand} {k : AV → Ro} {r : AV × St} (h : (fx x).get E k = some r) : ∃ v, evo env x = some v ∧ k v = some r := by
  cases x with
  | tmp t =>
    simp only [fx] at h
    cases hb : Nat.blt t 256 with
    | false => rw [hb] at h; cases h
    | true =>
      rw [hb] at h
      have hlt : t < 256 := Nat.le_of_ble_eq_true hb
      have he : (s16 (t % 16)).sel ((s16 (t / 16)).sel E) = getN E t := sel2_eq E t hlt
      obtain ⟨h1, h2⟩ := seen_some (show seen ((s16 (t % 16)).sel ((s16 (t / 16)).sel E)) k = some r from h)
      rw [he] at h1 h2
      exact ⟨_, hR t hlt h1, h2⟩
  | const v =>
    simp only [fx] at h
    cases hc : ofConst v with
    | none => rw [hc] at h; cases h
    | some c => rw [hc] at h; exact ⟨c, hc, h⟩
  | global g => cases h
  | func f => exact ⟨_, rfl, h⟩

structure FXs where
  get : N2 → (List AV → Ro) → Ro

def fxs : List Operand → FXs
  | [] => ⟨fun _ k => k []⟩
  | x :: r => match fx x, fxs r with
    | ⟨f⟩, ⟨g⟩ => ⟨fun E k => f E fun v => g E fun vs => k (v :: vs)⟩

theorem fxs_ok {E : N2} {env : Env} (hR : RelE E env) : ∀ {xs : List Operand} {k : List AV → Ro} {r : AV × St}, (fxs xs).get E k = some r → ∃ vs, evos env xs = some vs ∧ k vs = some r
  | [], k, r, h => ⟨[], rfl, h⟩
  | x :: xs, k, r, h => by
    simp only [fxs] at h
    obtain ⟨v, h1, h2⟩ := fx_ok hR (x := x) h
    obtain ⟨vs, h3, h4⟩ := fxs_ok hR h2
    exact ⟨v :: vs, by simp only [evos, h1, h3], h4⟩

structure FP2 where
  put : AV → N2 → (N2 → Ro) → Ro

def fput (nt : Nat) : Option Nat → FP2
  | none => ⟨fun _ E k => k E⟩
  | some t => bif Nat.blt t nt && Nat.blt t 256 then (match s16 (t / 16), s16 (t / 16), s16 (t % 16) with | ⟨f, _⟩, ⟨_, g⟩, ⟨_, u⟩ => ⟨fun v E k => forceV v fun v => k (g (u v (f E)) E)⟩) else ⟨fun _ _ _ => none⟩

theorem fput_ok {E : N2} {env : Env} (hR : RelE E env) {nt : Nat} {dst : Option Nat} {v : AV} {k : N2 → Ro} {r : AV × St} (h : (fput nt dst).put v E k = some r) :
    ∃ env' E', putE nt dst v env = some env' ∧ RelE E' env' ∧ k E' = some r := by
  cases dst with
  | none => exact ⟨env, E, rfl, hR, h⟩
  | some t =>
    simp only [fput] at h
    cases hb : (Nat.blt t nt && Nat.blt t 256) with
    | false => rw [hb] at h; cases h
    | true =>
      rw [hb] at h
      simp only [cond_true, forceV_eq] at h
      simp only [Bool.and_eq_true] at hb
      have h1 : t < nt := Nat.le_of_ble_eq_true hb.1
      have h2 : t < 256 := Nat.le_of_ble_eq_true hb.2
      have h : k ((s16 (t / 16)).upd ((s16 (t % 16)).upd v ((s16 (t / 16)).sel E)) E) = some r := h
      rw [upd2_eq E t v h2] at h
      refine ⟨(t, v) :: env, putN2 t v E, by simp only [putE, if_pos h1], ?_, h⟩
      intro s hs hne
      rw [getN_put hs h2] at hne ⊢
      rw [lk_cons]
      by_cases hts : t = s
      · rw [if_pos hts, if_pos hts]
      · rw [if_neg hts] at hne; rw [if_neg hts, if_neg hts]
        exact hR s hs hne

/-- The slots that an operation looks at, as a list. -/
def lsN (E : N2) : List Nat → Option Env
  | [] => some []
  | t :: r => bif Nat.blt t 256 then (match getN E t, lsN E r with
    | .und, _ => none
    | v, some l => some ((t, v) :: l)
    | _, none => none) else none

theorem lsN_ok {E : N2} {env : Env} (hR : RelE E env) : ∀ {ts : List Nat} {l : Env}, lsN E ts = some l → (∀ t ∈ ts, ∃ v, lk l t = some v ∧ lk env t = some v) ∧ ∀ t v, lk l t = some v → lk env t = some v
  | [], l, h => by cases h; exact ⟨fun t ht => by simp at ht, fun t v hv => by simp [lk] at hv⟩
  | t :: r, l, h => by
    simp only [lsN] at h
    cases hb : Nat.blt t 256 with
    | false => rw [hb] at h; cases h
    | true =>
      rw [hb] at h
      simp only [cond_true] at h
      have hlt : t < 256 := Nat.le_of_ble_eq_true hb
      split at h
      · cases h
      · rename_i v l' hl hne
        cases h
        obtain ⟨h1, h2⟩ := lsN_ok hR hl
        have ht : lk env t = some (getN E t) := hR t hlt hne
        refine ⟨fun s hs => ?_, fun s v hv => ?_⟩
        · rw [lk_cons]
          by_cases hts : t = s
          · subst hts; rw [if_pos rfl]; exact ⟨_, rfl, ht⟩
          · rw [if_neg hts]
            simp only [List.mem_cons] at hs
            exact h1 s (hs.resolve_left fun e => hts e.symm)
        · rw [lk_cons] at hv
          split at hv
          · rename_i hts; subst hts; cases hv; exact ht
          · exact h2 s v hv
      · cases h

def tmpsOf : List Operand → List Nat
  | [] => []
  | .tmp t :: r => t :: tmpsOf r
  | _ :: r => tmpsOf r

theorem mem_tmpsOf {t : Nat} : ∀ {l : List Operand}, Operand.tmp t ∈ l → t ∈ tmpsOf l
  | x :: r, h => by
    rcases List.mem_cons.1 h with h | h
    · subst h; simp [tmpsOf]
    · have := mem_tmpsOf h
      cases x <;> simp [tmpsOf, this]

structure FV where
  run : N2 → St → (AV → St → Ro) → Ro

/-- An operation by the plain interpreter. -/
def fvGen (T : Tab) (op : Op) : FV :=
  (fun ts => ⟨fun E σ k => match lsN E ts with
    | some env => match opA T env σ op with
      | some (.val v σ') => k v σ'
      | _ => none
    | none => none⟩) (tmpsOf op.operands.toList)

def FV.Ok (T : Tab) (op : Op) (f : FV) : Prop := ∀ (E : N2) (env : Env) (σ : St) (k : AV → St → Ro) (r : AV × St), RelE E env → f.run E σ k = some r → ∃ v σ', opA T env σ op = some (.val v σ') ∧ k v σ' = some r

theorem fvGen_ok (T : Tab) (op : Op) : (fvGen T op).Ok T op := by
  intro E env σ k r hR h
  simp only [fvGen] at h
  split at h
  case h_2 => cases h
  rename_i l hl
  split at h
  case h_2 => cases h
  rename_i v σ' hop
  obtain ⟨h1, _⟩ := lsN_ok hR hl
  refine ⟨v, σ', ?_, h⟩
  rw [← hop]
  refine opA_congr fun x hx => ?_
  cases x with
  | tmp t =>
    obtain ⟨v, h2, h3⟩ := h1 t (mem_tmpsOf (by simpa using hx))
    show lk env t = lk l t
    rw [h2, h3]
  | _ => rfl

/-! ### Numbers -/
def addI : Int → Int → Int
  | .ofNat a, .ofNat b => .ofNat (Nat.add a b)
  | a, b => a + b
theorem addI_eq (a b : Int) : addI a b = a + b := by unfold addI; split <;> rfl
def mulI : Int → Int → Int
  | .ofNat a, .ofNat b => .ofNat (Nat.mul a b)
  | a, b => a * b
theorem mulI_eq (a b : Int) : mulI a b = a * b := by unfold mulI; split <;> rfl
def subI : Int → Int → Int
  | .ofNat a, .ofNat b => bif Nat.ble b a then .ofNat (Nat.sub a b) else .negSucc (Nat.sub (Nat.sub b a) 1)
  | a, b => a - b
theorem subI_eq (a b : Int) : subI a b = a - b := by
  unfold subI
  split
  · rename_i a b
    cases hb : Nat.ble b a with
    | true =>
      have := Nat.le_of_ble_eq_true hb
      simp only [cond_true, Int.ofNat_eq_natCast, Nat.sub_eq]
      omega
    | false =>
      have : ¬ b ≤ a := fun h => by rw [← Nat.ble_eq] at h; rw [h] at hb; cases hb
      simp only [cond_false, Int.ofNat_eq_natCast, Nat.sub_eq]
      omega
  · rfl
def remI : Int → Int → Option Int
  | .ofNat a, .ofNat b => bif Nat.beq b 0 then none else some (.ofNat (Nat.mod a b))
  | a, b => bif ieqb b 0 then none else some (a.tmod b)
def quoI : Int → Int → Option Int
  | .ofNat a, .ofNat b => bif Nat.beq b 0 then none else some (.ofNat (Nat.div a b))
  | a, b => bif ieqb b 0 then none else some (a.tdiv b)
theorem remI_eq (a b : Int) : remI a b = bif ieqb b 0 then none else some (a.tmod b) := by
  unfold remI; split <;> rfl
theorem quoI_eq (a b : Int) : quoI a b = bif ieqb b 0 then none else some (a.tdiv b) := by
  unfold quoI; split <;> rfl

def kcode : IntKind → Nat
  | .i8 => 0 | .i16 => 1 | .i32 => 2 | .i64 => 3 | .u8 => 4 | .u16 => 5 | .u32 => 6 | .u64 => 7
theorem kcode_inj {a b : IntKind} (h : Nat.beq (kcode a) (kcode b) = true) : a = b := by
  cases a <;> cases b <;> first | rfl | (simp [kcode] at h)

structure FB where
  f : IntKind → Int → Int → (AV → Ro) → Ro

def fbin : BinOp → FB
  | .add => ⟨fun k a b K => K (.int k (wrapA k (addI a b)))⟩
  | .sub => ⟨fun k a b K => K (.int k (wrapA k (subI a b)))⟩
  | .mul => ⟨fun k a b K => K (.int k (wrapA k (mulI a b)))⟩
  | .eql => ⟨fun _ a b K => K (.bool (ieqb a b))⟩
  | .neq => ⟨fun _ a b K => K (.bool (!ieqb a b))⟩
  | .lss => ⟨fun _ a b K => K (.bool (!ileb b a))⟩
  | .leq => ⟨fun _ a b K => K (.bool (ileb a b))⟩
  | .gtr => ⟨fun _ a b K => K (.bool (!ileb a b))⟩
  | .geq => ⟨fun _ a b K => K (.bool (ileb b a))⟩
  | .rem => ⟨fun k a b K => match remI a b with | some n => K (.int k n) | none => none⟩
  | .quo => ⟨fun k a b K => match quoI a b with | some n => K (.int k (wrapA k n)) | none => none⟩
  | .shl => ⟨fun _ _ _ _ => none⟩
  | .shr => ⟨fun _ _ _ _ => none⟩
  | op => ⟨fun k a b K => match binInt op k a b with | some v => K v | none => none⟩

theorem fbin_ok {op : BinOp} {kk : IntKind} {a b : Int} {K : AV → Ro} {r : AV × St} (h : (fbin op).f kk a b K = some r) : op ≠ .shl ∧ op ≠ .shr ∧ ∃ v, binInt op kk a b = some v ∧ K v = some r := by
  have gen : ∀ x : Option AV, (match x with | some v => K v | none => none) = some r → ∃ v, x = some v ∧ K v = some r := fun x hx => by
    cases x with
    | none => cases hx
    | some v => exact ⟨v, rfl, hx⟩
  cases op <;> simp only [fbin] at h
  case shl => cases h
  case shr => cases h
  case add => exact ⟨by simp, by simp, _, rfl, by rw [← addI_eq]; exact h⟩
  case sub => exact ⟨by simp, by simp, _, rfl, by rw [← subI_eq]; exact h⟩
  case mul => exact ⟨by simp, by simp, _, rfl, by rw [← mulI_eq]; exact h⟩
  case rem =>
    rw [remI_eq] at h
    refine ⟨by simp, by simp, ?_⟩
    simp only [binInt]
    cases hb : ieqb b 0 with
    | true => rw [hb] at h; cases h
    | false => rw [hb] at h; exact ⟨_, rfl, h⟩
  case quo =>
    rw [quoI_eq] at h
    refine ⟨by simp, by simp, ?_⟩
    simp only [binInt]
    cases hb : ieqb b 0 with
    | true => rw [hb] at h; cases h
    | false => rw [hb] at h; exact ⟨_, rfl, h⟩
  all_goals first | exact ⟨by simp, by simp, gen _ h⟩ | exact ⟨by simp, by simp, _, rfl, h⟩

end Go.Abs
