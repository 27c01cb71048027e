/- Plain definitions: abstract values, an abstract heap, and an interpreter of the model's code over them. Nothing is claimed here; no condition. -/
import Derived.WalkKit
import Derived.KernelRfl
namespace Go.Abs
open Go

/-- 'if i = j' on numbers, in the form that the kernel reckons fastest. -/
def nif {α : Type} (i j : Nat) (a b : α) : α := bif Nat.beq i j then a else b

theorem nif_eq {α : Type} (i j : Nat) (a b : α) : nif i j a b = if i = j then a else b := by
  unfold nif
  by_cases h : i = j
  · subst h; simp
  · have : Nat.beq i j = false := by
      cases hb : Nat.beq i j with
      | false => rfl
      | true => exact (h (Nat.eq_of_beq_eq_true hb)).elim
    simp [this, h]

/-- The order of integers, as a Bool. -/
def ileb : Int → Int → Bool
  | .ofNat a, .ofNat b => Nat.ble a b
  | .ofNat _, .negSucc _ => false
  | .negSucc _, .ofNat _ => true
  | .negSucc a, .negSucc b => Nat.ble b a

theorem ileb_eq (x y : Int) : ileb x y = decide (x ≤ y) := by
  have hb : ∀ a b : Nat, Nat.ble a b = decide (a ≤ b) := fun a b => by
    by_cases h : a ≤ b
    · simp [h, Nat.ble_eq]
    · have : Nat.ble a b = false := by
        cases hx : Nat.ble a b with
        | false => rfl
        | true => exact (h (Nat.le_of_ble_eq_true hx)).elim
      simp [this, h]
  cases x <;> cases y <;> simp only [ileb, hb]
  · simp
  · rename_i a b; have : ¬ (Int.ofNat a ≤ Int.negSucc b) := by simp only [Int.ofNat_eq_natCast]; omega
    rw [decide_eq_false this]
  · rename_i a b; have : Int.negSucc a ≤ Int.ofNat b := by simp only [Int.ofNat_eq_natCast]; omega
    rw [decide_eq_true this]
  · rename_i a b
    have : (Int.negSucc a ≤ Int.negSucc b) ↔ b ≤ a := by omega
    simp [this]

/-- Equality of integers, as a Bool. -/
def ieqb : Int → Int → Bool
  | .ofNat a, .ofNat b => Nat.beq a b
  | .negSucc a, .negSucc b => Nat.beq a b
  | _, _ => false

theorem ieqb_eq (x y : Int) : ieqb x y = (x == y) := by
  have hb : ∀ a b : Nat, Nat.beq a b = decide (a = b) := fun a b => by
    by_cases h : a = b
    · subst h; simp
    · have : Nat.beq a b = false := by
        cases hx : Nat.beq a b with
        | false => rfl
        | true => exact (h (Nat.eq_of_beq_eq_true hx)).elim
      simp [this, h]
  rw [Bool.eq_iff_iff, beq_iff_eq]
  cases x <;> cases y <;> simp only [ieqb, hb]
  · simp only [decide_eq_true_eq, Int.ofNat_eq_natCast]; omega
  · simp
  · simp
  · simp

/-- The greatest number of a kind. -/
def topOf : IntKind → Nat
  | .i8 => 127 | .i16 => 32767 | .i32 => 2147483647 | .i64 => 9223372036854775807
  | .u8 => 255 | .u16 => 65535 | .u32 => 4294967295 | .u64 => 18446744073709551615

/-- The wrap of a kind; numbers that fit are seen at once. -/
def wrapA (k : IntKind) : Int → Int
  | .ofNat a => bif Nat.ble a (topOf k) then .ofNat a else k.wrap (.ofNat a)
  | .negSucc a => bif k.signed && Nat.ble a (topOf k) then .negSucc a else k.wrap (.negSucc a)

theorem wrapA_eq (k : IntKind) (n : Int) : wrapA k n = k.wrap n := by
  cases n with
  | ofNat a =>
    simp only [wrapA]
    cases h : Nat.ble a (topOf k) with
    | false => rfl
    | true =>
      have h' := Nat.le_of_ble_eq_true h
      simp only [cond_true]
      cases k <;> simp only [topOf, IntKind.wrap, IntKind.bits, IntKind.signed, Int.ofNat_eq_natCast] at * <;> simp <;> omega
  | negSucc a =>
    simp only [wrapA]
    cases h : (k.signed && Nat.ble a (topOf k)) with
    | false => rfl
    | true =>
      simp only [Bool.and_eq_true] at h
      have h' := Nat.le_of_ble_eq_true h.2
      simp only [cond_true]
      cases k <;> simp only [topOf, IntKind.wrap, IntKind.bits, IntKind.signed] at * <;> first | (simp at h; done) | (simp; omega)

theorem ileb_not (x y : Int) : (!ileb y x) = decide (x < y) := by
  rw [ileb_eq]
  by_cases h : x < y
  · have : ¬ y ≤ x := by omega
    simp [h]
  · have : y ≤ x := by omega
    simp [h, this]

theorem bif_dec {α : Type} {p : Prop} [Decidable p] (a b : α) : (bif decide p then a else b) = if p then a else b := by
  by_cases h : p <;> simp [h]

theorem bif_beq {α : Type} (x y : Int) (a b : α) : (bif ieqb x y then a else b) = if x = y then a else b := by
  have : ieqb x y = decide (x = y) := by
    rw [ieqb_eq]
    by_cases h : x = y
    · simp [h]
    · rw [decide_eq_false h]; exact beq_false_of_ne h
  rw [this]; exact bif_dec _ _

theorem bif_ile {α : Type} (x y : Int) (a b : α) : (bif ileb x y then a else b) = if x ≤ y then a else b := by
  rw [ileb_eq]; exact bif_dec _ _

theorem wrap_small (k : IntKind) {m : Nat} (h : m ≤ topOf k) : k.wrap (.ofNat m) = .ofNat m := by
  rw [← wrapA_eq]
  have : Nat.ble m (topOf k) = true := by rw [Nat.ble_eq]; exact h
  simp [wrapA, this]

theorem topOf_pow (k : IntKind) : ∃ j, topOf k + 1 = 2 ^ j ∧ j ≤ k.bits := by
  cases k
  · exact ⟨7, rfl, by decide⟩
  · exact ⟨15, rfl, by decide⟩
  · exact ⟨31, rfl, by decide⟩
  · exact ⟨63, rfl, by decide⟩
  · exact ⟨8, rfl, by decide⟩
  · exact ⟨16, rfl, by decide⟩
  · exact ⟨32, rfl, by decide⟩
  · exact ⟨64, rfl, by decide⟩

theorem toNat_small (k : IntKind) {m : Nat} (h : m ≤ topOf k) : (BitVec.ofInt k.bits (.ofNat m)).toNat = m := by
  obtain ⟨j, h1, h2⟩ := topOf_pow k
  have h3 : 2 ^ j ≤ 2 ^ k.bits := Nat.pow_le_pow_right (by decide) h2
  have : BitVec.ofInt k.bits (.ofNat m) = BitVec.ofNat k.bits m := by
    apply BitVec.eq_of_toNat_eq
    simp
  rw [this, BitVec.toNat_ofNat, Nat.mod_eq_of_lt (by omega)]

theorem land_small (k : IntKind) {a b : Nat} (ha : a ≤ topOf k) (hb : b ≤ topOf k) : k.wrap (BitVec.ofInt k.bits (.ofNat a) &&& BitVec.ofInt k.bits (.ofNat b)).toNat = .ofNat (Nat.land a b) := by
  rw [BitVec.toNat_and, toNat_small k ha, toNat_small k hb]
  exact wrap_small k (Nat.le_trans Nat.and_le_left ha)

theorem lor_small (k : IntKind) {a b : Nat} (ha : a ≤ topOf k) (hb : b ≤ topOf k) : k.wrap (BitVec.ofInt k.bits (.ofNat a) ||| BitVec.ofInt k.bits (.ofNat b)).toNat = .ofNat (Nat.lor a b) := by
  rw [BitVec.toNat_or, toNat_small k ha, toNat_small k hb]
  obtain ⟨j, h1, _⟩ := topOf_pow k
  have : a ||| b < 2 ^ j := Nat.or_lt_two_pow (by omega) (by omega)
  exact wrap_small k (by omega)

theorem xor_small (k : IntKind) {a b : Nat} (ha : a ≤ topOf k) (hb : b ≤ topOf k) : k.wrap (BitVec.ofInt k.bits (.ofNat a) ^^^ BitVec.ofInt k.bits (.ofNat b)).toNat = .ofNat (Nat.xor a b) := by
  rw [BitVec.toNat_xor, toNat_small k ha, toNat_small k hb]
  obtain ⟨j, h1, _⟩ := topOf_pow k
  have : a ^^^ b < 2 ^ j := Nat.xor_lt_two_pow (by omega) (by omega)
  exact wrap_small k (by omega)

/-- x times 2 to the power of n, and x divided by it, rounded down. -/
def shlA : Int → Nat → Int
  | .ofNat a, n => .ofNat (a * 2 ^ n)
  | .negSucc a, n => .negSucc a * 2 ^ n
def shrA : Int → Nat → Int
  | .ofNat a, n => .ofNat (a / 2 ^ n)
  | .negSucc a, n => (Int.negSucc a).fdiv (2 ^ n)

theorem shlA_eq (x : Int) (n : Nat) : shlA x n = x * 2 ^ n := by
  cases x with
  | ofNat a => simp [shlA]
  | negSucc a => rfl
theorem shrA_eq (x : Int) (n : Nat) : shrA x n = x.fdiv (2 ^ n) := by
  cases x with
  | ofNat a =>
    simp only [shrA, Int.ofNat_eq_natCast]
    rw [Int.fdiv_eq_ediv_of_nonneg _ (by have : (0 : Int) < 2 ^ n := Int.pow_pos (by decide); omega)]
    simp
  | negSucc a => rfl

/-- Is a number an index below another? -/
def inB (n : Int) (len : Nat) : Bool :=
  match n with
  | .ofNat k => Nat.blt k len
  | .negSucc _ => false

theorem inB_eq (n : Int) (len : Nat) : inB n len = decide (0 ≤ n ∧ n < len) := by
  cases n with
  | ofNat k =>
    simp only [inB, Int.ofNat_eq_natCast]
    by_cases h : k < len
    · have : Nat.blt k len = true := by unfold Nat.blt; rw [Nat.ble_eq]; exact h
      simp [this, h]
    · have : Nat.blt k len = false := by
        cases hx : Nat.blt k len with
        | false => rfl
        | true => exact (h (Nat.le_of_ble_eq_true hx)).elim
      simp [this, h]
  | negSucc k => simp [inB]

/-- Abstract values. 'lst': a slice that nobody writes any more, as the list of its cells; 'lp': a pointer into such cells; 'sl', 'ptr': a slice, a pointer into a row of the abstract heap. -/
inductive AV where
  | int (k : IntKind) (n : Int)
  | bool (b : Bool)
  | str (s : List UInt8)
  | lst (len : Nat) (cells : List AV)
  | lp (cells : List AV) (off : Nat)
  | sl (b off len cap : Nat)
  | ptr (b off : Nat)
  | nilS
  | nilP
  | nilF
  | nilI
  | fn (f : FuncId) (first cap : List AV)
  | agg (cells : List AV)
  | tup (vs : List AV)
  | und
  deriving Inhabited

/-- A row of the abstract heap: its known cells, the cells of one element, and whether more room may lie behind. -/
structure Blk where
  cells : List AV
  esz : Nat
  opn : Bool

structure St where
  h : List (Nat × Blk)
  n : Nat

def hget : List (Nat × Blk) → Nat → Option Blk
  | [], _ => none
  | (i, x) :: r, b => nif i b (some x) (hget r b)

def hset : List (Nat × Blk) → Nat → Blk → List (Nat × Blk)
  | [], _, _ => []
  | (i, x) :: r, b, y => nif i b ((i, y) :: r) ((i, x) :: hset r b y)

def hdel : List (Nat × Blk) → Nat → List (Nat × Blk)
  | [], _ => []
  | (i, x) :: r, b => nif i b (hdel r b) ((i, x) :: hdel r b)

def St.get (σ : St) (b : Nat) : Option Blk := hget σ.h b
def St.set (σ : St) (b : Nat) (x : Blk) : St := ⟨hset σ.h b x, σ.n⟩
def St.del (σ : St) (b : Nat) : St := ⟨hdel σ.h b, σ.n⟩
def St.push (σ : St) (x : Blk) : St := ⟨(σ.n, x) :: σ.h, σ.n + 1⟩

abbrev Env := List (Nat × AV)

def lk : Env → Nat → Option AV
  | [], _ => none
  | (s, v) :: r, t => nif s t (some v) (lk r t)

def restrict : List Nat → Env → Env
  | [], _ => []
  | t :: r, e => match lk e t with
    | some v => (t, v) :: restrict r e
    | none => restrict r e

/-- What is kept behind a region; a region that is not named keeps all. -/
def keepE : List (Nat × List Nat) → Nat → Env → Env
  | [], _, env => env
  | (i, l) :: r, id, env => nif i id (restrict l env) (keepE r id env)

/-! Types -/
inductive TK where
  | int (k : IntKind)
  | bool
  | string
  | slice (e : TypeId)
  | array (n : Nat) (e : TypeId)
  | struct (fs : List (TypeId × Nat))
  | pointer
  | func
  | iface
  | other

structure TyI where
  k : TK
  size : Nat
  bytes : Nat
  zero : List AV

def TK.isAgg : TK → Bool
  | .struct _ | .array _ _ => true
  | _ => false

/-- A constant as an abstract value; one that is no aggregate. -/
def ofConst1 : Value → Option AV
  | .int k n => some (.int k n)
  | .bool b => some (.bool b)
  | .string s => some (.str s.data.toList)
  | .pointer none => some .nilP
  | .slice none 0 0 => some .nilS
  | .nilFunc => some .nilF
  | .nilIface => some .nilI
  | _ => none

def ofConsts : List Value → Option (List AV)
  | [] => some []
  | v :: r => match ofConst1 v, ofConsts r with
    | some x, some y => some (x :: y)
    | _, _ => none

def ofConst : Value → Option AV
  | .agg cs => match ofConsts cs.toList with
    | some l => some (.agg l)
    | none => none
  | v => ofConst1 v

def kindOf : TypeDesc → TK
  | .int k => .int k
  | .bool => .bool
  | .string => .string
  | .slice e => .slice e
  | .array n e => .array n e
  | .struct fs => .struct (fs.toList.map fun f => (f.type, f.offset))
  | .pointer _ => .pointer
  | .func .. => .func
  | .interface _ => .iface
  | _ => .other

/-- May two values of a struct be held against each other, field by field? -/
def eqFine (P : Program) (t : TypeId) : TypeDesc → Bool
  | .struct fs => !P.stoodInHeld t && (!P.eqGuardType P.depth t && fs.toList.all fun f => f.name != "_")
  | _ => true

def tyOf (P : Program) (t : TypeId) : Option TyI :=
  match P.info? t, P.underlying t with
  | some i, some d => match i.zero with
    | some z => match ofConsts z.cells.toList with
      | some l => if l.length = i.size ∧ i.size < 7000000000 then bif eqFine P t d then some { k := kindOf d, size := i.size, bytes := i.bytes, zero := l } else none else none
      | none => none
    | none => none
  | _, _ => none

/-- What the interpreter is told of one function: the slots that are kept behind each region; the regions with an order of their own that want a look at their loads; how it is called (0: in the caller's heap; 1: in a heap of its own, the result is frozen; 2: in a heap of its own, the result's slices become the caller's own; 3: as 1, the arguments' slices are only lent and the result holds no memory). -/
structure Ann where
  keep : List (Nat × List Nat) := []
  dyn : List (Nat × List (Nat × Nat)) := []
  mode : Nat := 0

structure Tab where
  ty : TypeId → Option TyI
  fn : FuncId → Option Func
  an : FuncId → Ann
  /-- What is known of functions without a text here. -/
  ext : FuncId → List AV → St → Option (AV × St) := fun _ _ _ => none

structure FI where
  res : List ResultVar
  nt : Nat
  keep : List (Nat × List Nat)
  dyn : List (Nat × List (Nat × Nat))

def FI.of (F : Func) (a : Ann) : FI := { res := F.results.toList, nt := F.ntmps, keep := a.keep, dyn := a.dyn }

/-- The size of a row's cells, with the type of what they are: a number so great is never a size. -/
def tagOf (e : TypeId) (n : Nat) : Nat := n + 7000000000 * (e + 1)
/-- How a new variable is told: with its type if it is a pointer and a slice. -/
def tagZ (e : TypeId) : List AV → Nat → Nat
  | [.nilP, .nilS], _ => tagOf e 2
  | _, n => n

/-! Operations -/
def evo (env : Env) : Operand → Option AV
  | .tmp t => lk env t
  | .const v => ofConst v
  | .global _ => none
  | .func f => some (.fn f [] [])

def evos (env : Env) : List Operand → Option (List AV)
  | [] => some []
  | x :: r => match evo env x, evos env r with
    | some a, some b => some (a :: b)
    | _, _ => none

def AV.one : AV → Bool
  | .agg _ | .tup _ | .und => false
  | _ => true

def AV.cellsOf : AV → List AV
  | .agg cs => cs
  | v => [v]

def allOne : List AV → Bool
  | [] => true
  | x :: r => x.one && allOne r

def takeN : Nat → List AV → Option (List AV)
  | 0, _ => some []
  | _ + 1, [] => none
  | n + 1, x :: r => match takeN n r with
    | some l => some (x :: l)
    | none => none

def dropN : Nat → List AV → Option (List AV)
  | 0, l => some l
  | _ + 1, [] => none
  | n + 1, _ :: r => dropN n r

def getCells (cs : List AV) (off n : Nat) : Option (List AV) :=
  match dropN off cs with
  | some l => takeN n l
  | none => none

theorem takeN_eq : ∀ (n : Nat) (l : List AV), takeN n l = if n ≤ l.length then some (l.take n) else none
  | 0, l => by simp [takeN]
  | n + 1, [] => by simp [takeN]
  | n + 1, x :: r => by
    simp only [takeN, takeN_eq n r, List.length_cons, Nat.add_le_add_iff_right, List.take_succ_cons]
    split <;> rename_i h <;> split at h <;> simp_all

theorem dropN_eq : ∀ (n : Nat) (l : List AV), dropN n l = if n ≤ l.length then some (l.drop n) else none
  | 0, l => by simp [dropN]
  | n + 1, [] => by simp [dropN]
  | n + 1, x :: r => by simp [dropN, dropN_eq n r]

theorem getCells_eq (cs : List AV) (off n : Nat) : getCells cs off n = if off + n ≤ cs.length then some ((cs.drop off).take n) else none := by
  unfold getCells
  rw [dropN_eq]
  by_cases h1 : off ≤ cs.length
  · rw [if_pos h1]
    simp only [takeN_eq, List.length_drop]
    by_cases h2 : off + n ≤ cs.length
    · rw [if_pos h2, if_pos (by omega)]
    · rw [if_neg h2, if_neg (by omega)]
  · rw [if_neg h1, if_neg (by omega)]

def putCells (cs : List AV) (off : Nat) (new : List AV) : List AV := cs.take off ++ new ++ cs.drop (off + new.length)

/-- Cells written over the first ones; over those from a place on. -/
def overN : List AV → List AV → Option (List AV)
  | [], cs => some cs
  | _ :: _, [] => none
  | x :: r, _ :: cs => match overN r cs with
    | some l => some (x :: l)
    | none => none

def putN : Nat → List AV → List AV → Option (List AV)
  | 0, new, cs => overN new cs
  | n + 1, [], [] => match n with
    | _ => none
  | _ + 1, _ :: _, [] => none
  | n + 1, new, c :: cs => match putN n new cs with
    | some l => some (c :: l)
    | none => none

theorem overN_eq : ∀ (new cs : List AV), overN new cs = if new.length ≤ cs.length then some (new ++ cs.drop new.length) else none
  | [], cs => by simp [overN]
  | x :: r, [] => by simp [overN]
  | x :: r, c :: cs => by
    simp only [overN, overN_eq r cs, List.length_cons, Nat.add_le_add_iff_right, List.cons_append, List.drop_succ_cons]
    split <;> rename_i h <;> split at h <;> simp_all

theorem putN_eq : ∀ (off : Nat) (new cs : List AV), putN off new cs = if off + new.length ≤ cs.length then some (putCells cs off new) else none
  | 0, new, cs => by simp [putN, overN_eq, putCells]
  | n + 1, [], [] => by simp [putN]
  | n + 1, _ :: _, [] => by simp [putN]
  | n + 1, [], c :: cs => by
    simp only [putN, putN_eq n [] cs, List.length_cons, List.length_nil, Nat.add_zero, Nat.add_le_add_iff_right]
    split <;> rename_i h <;> split at h <;> simp_all [putCells]
  | n + 1, x :: r, c :: cs => by
    simp only [putN, putN_eq n (x :: r) cs, List.length_cons]
    split <;> rename_i h <;> split at h
    · cases h; rw [if_pos (by omega)]
      have : n + 1 + (r.length + 1) = (n + (r.length + 1)) + 1 := by omega
      simp [putCells, this]
    · cases h
    · cases h
    · rw [if_neg (by omega)]

/-- The cells from an address on. -/
def cellsAt (σ : St) (a : AV) (n : Nat) : Option (List AV) :=
  match a with
  | .lp cs off => getCells cs off n
  | .ptr b off => match σ.get b with
    | some x => getCells x.cells off n
    | none => none
  | _ => none

def asVar (agg : Bool) (cs : List AV) : Option AV :=
  if agg then some (.agg cs) else match cs with
    | [x] => some x
    | _ => none

def loadA (T : Tab) (σ : St) (t : TypeId) (a : AV) : Option AV :=
  match T.ty t with
  | some i => match cellsAt σ a i.size with
    | some cs => asVar i.k.isAgg cs
    | none => none
  | none => none

def storeCellsA (σ : St) (b off : Nat) (new : List AV) : Option St :=
  match σ.get b with
  | some x => match allOne new with
    | true => match putN off new x.cells with
      | some l => some (σ.set b ⟨l, x.esz, x.opn⟩)
      | none => none
    | false => none
  | none => none

theorem storeCellsA_eq (σ : St) (b off : Nat) (new : List AV) : storeCellsA σ b off new = match σ.get b with
    | some x => if off + new.length ≤ x.cells.length ∧ allOne new = true then some (σ.set b { x with cells := putCells x.cells off new }) else none
    | none => none := by
  unfold storeCellsA
  cases σ.get b with
  | none => rfl
  | some x =>
    simp only [putN_eq]
    cases h1 : allOne new with
    | false => simp
    | true => by_cases h : off + new.length ≤ x.cells.length <;> simp [h]

def storeA (T : Tab) (σ : St) (t : TypeId) (a v : AV) : Option St :=
  match T.ty t, a with
  | some i, .ptr b off => if v.cellsOf.length = i.size then storeCellsA σ b off v.cellsOf else none
  | _, _ => none

/-- Two small numbers that are not negative. -/
def smallNat (k : IntKind) (x y : Int) : Option (Nat × Nat) :=
  match x, y with
  | .ofNat a, .ofNat b => bif Nat.ble a (topOf k) && Nat.ble b (topOf k) then some (a, b) else none
  | _, _ => none

theorem smallNat_spec {k : IntKind} {x y : Int} {a b : Nat} (h : smallNat k x y = some (a, b)) : x = .ofNat a ∧ y = .ofNat b ∧ a ≤ topOf k ∧ b ≤ topOf k := by
  unfold smallNat at h
  split at h
  · rename_i p q
    cases hc : (Nat.ble p (topOf k) && Nat.ble q (topOf k)) with
    | false => rw [hc] at h; cases h
    | true =>
      rw [hc] at h; cases h
      simp only [Bool.and_eq_true] at hc
      exact ⟨rfl, rfl, Nat.le_of_ble_eq_true hc.1, Nat.le_of_ble_eq_true hc.2⟩
  · cases h

def bitsA (op : BinOp) (k : IntKind) (x y : Int) : Option AV :=
  match op, smallNat k x y with
  | .and, some (a, b) => some (.int k (.ofNat (Nat.land a b)))
  | .or, some (a, b) => some (.int k (.ofNat (Nat.lor a b)))
  | .xor, some (a, b) => some (.int k (.ofNat (Nat.xor a b)))
  | .and, _ => some (.int k (k.wrap (BitVec.ofInt k.bits x &&& BitVec.ofInt k.bits y).toNat))
  | .or, _ => some (.int k (k.wrap (BitVec.ofInt k.bits x ||| BitVec.ofInt k.bits y).toNat))
  | .xor, _ => some (.int k (k.wrap (BitVec.ofInt k.bits x ^^^ BitVec.ofInt k.bits y).toNat))
  | .andNot, _ => some (.int k (k.wrap (BitVec.ofInt k.bits x &&& ~~~BitVec.ofInt k.bits y).toNat))
  | _, _ => none

def binInt (op : BinOp) (k : IntKind) (x y : Int) : Option AV :=
  match op with
  | .add => some (.int k (wrapA k (x + y)))
  | .sub => some (.int k (wrapA k (x - y)))
  | .mul => some (.int k (wrapA k (x * y)))
  | .quo => bif ieqb y 0 then none else some (.int k (wrapA k (x.tdiv y)))
  | .rem => bif ieqb y 0 then none else some (.int k (x.tmod y))
  | .eql => some (.bool (ieqb x y))
  | .neq => some (.bool (!ieqb x y))
  | .lss => some (.bool (!ileb y x))
  | .leq => some (.bool (ileb x y))
  | .gtr => some (.bool (!ileb x y))
  | .geq => some (.bool (ileb y x))
  | op => bitsA op k x y

def binStr (op : BinOp) (x y : List UInt8) : Option AV :=
  match op with
  | .eql => some (.bool (x == y))
  | .neq => some (.bool (!(x == y)))
  | .add => if x.length + y.length ≤ 9223372036854775807 then some (.str (x ++ y)) else none
  | .lss => some (.bool (Op.bytesLess x y))
  | .leq => some (.bool (Op.bytesLess x y || x == y))
  | .gtr => some (.bool (!(Op.bytesLess x y || x == y)))
  | .geq => some (.bool (!Op.bytesLess x y))
  | _ => none

def binBool (op : BinOp) (x y : Bool) : Option AV :=
  match op with
  | .eql => some (.bool (x == y))
  | .neq => some (.bool (!(x == y)))
  | _ => none

/-- A slice, a pointer or a function against nil: are the two equal? -/
def eqNil (k : TK) (x y : AV) : Option Bool :=
  match k, x, y with
  | .slice _, .nilS, .nilS => some true
  | .slice _, .sl .., .nilS => some false
  | .slice _, .nilS, .sl .. => some false
  | .slice _, .lst (_ + 1) _, .nilS => some false
  | .slice _, .nilS, .lst (_ + 1) _ => some false
  | .pointer, .nilP, .nilP => some true
  | .pointer, .ptr .., .nilP => some false
  | .pointer, .nilP, .ptr .. => some false
  | .pointer, .lp .., .nilP => some false
  | .pointer, .nilP, .lp .. => some false
  | .func, .nilF, .nilF => some true
  | .func, .fn .., .nilF => some false
  | .func, .nilF, .fn .. => some false
  | _, _, _ => none

def binNil (op : BinOp) (k : TK) (x y : AV) : Option AV :=
  match op, eqNil k x y with
  | .eql, some b => some (.bool b)
  | .neq, some b => some (.bool (!b))
  | _, _ => none

/-- Structs of numbers held against each other. -/
def eqFs (T : Tab) : List (TypeId × Nat) → List AV → List AV → Option Bool
  | [], _, _ => some true
  | (t, o) :: r, xs, ys => match T.ty t, xs[o]?, ys[o]?, eqFs T r xs ys with
    | some i, some (.int k a), some (.int k' b), some c => match i.k with
      | .int _ => if k = k' then some (ieqb a b && c) else none
      | _ => none
    | _, _, _, _ => none

def eqStr (T : Tab) (op : BinOp) (k : TK) (x y : AV) : Option AV :=
  match k, x, y with
  | .struct fs, .agg xs, .agg ys => match op, eqFs T fs xs ys with
    | .eql, some b => some (.bool b)
    | .neq, some b => some (.bool (!b))
    | _, _ => none
  | _, _, _ => none

def binA (T : Tab) (op : BinOp) (t : TypeId) (x y : AV) : Option AV :=
  match x, y with
  | .int k a, .int k' b =>
    match op with
    | .shl => bif ileb 0 b then some (.int k (wrapA k (shlA a (min b.toNat k.bits)))) else none
    | .shr => bif ileb 0 b then some (.int k (shrA a (min b.toNat k.bits))) else none
    | op => if k = k' then binInt op k a b else none
  | .str a, .str b => binStr op a b
  | .bool a, .bool b => match T.ty t with
    | some i => match i.k with
      | .bool => binBool op a b
      | _ => none
    | none => none
  | x, y => match T.ty t with
    | some i => match binNil op i.k x y with
      | some v => some v
      | none => eqStr T op i.k x y
    | none => none

def unA (op : UnOp) (x : AV) : Option AV :=
  match op, x with
  | .neg, .int k n => some (.int k (wrapA k (0 - n)))
  | .xor, .int k n => bitsA .xor k (if k.signed then -1 else k.max) n
  | .not, .bool b => some (.bool !b)
  | _, _ => none

def intsOf : List UInt8 → List AV
  | [] => []
  | b :: r => .int .u8 b.toNat :: intsOf r

def bytesOf : List AV → Option (List UInt8)
  | [] => some []
  | .int .u8 n :: r => match bytesOf r with
    | some l => some (UInt8.ofNat n.toNat :: l)
    | none => none
  | _ :: _ => none

/-- The first n elements' cells of a slice or a string. -/
def firstA (σ : St) (esz n : Nat) (x : AV) : Option (List AV) :=
  match x with
  | .sl b off _ _ => match σ.get b with
    | some y => getCells y.cells off (n * esz)
    | none => none
  | .lst _ cs => getCells cs 0 (n * esz)
  | .nilS => if n * esz = 0 then some [] else none
  | .str s => if esz = 1 then some (intsOf (s.take n)) else none
  | _ => none

def lenA : AV → Option Nat
  | .sl _ _ n _ => some n
  | .lst n _ => some n
  | .nilS => some 0
  | .str s => some s.length
  | _ => none

def convA (T : Tab) (σ : St) (src dst : TypeId) (x : AV) : Option (AV × St) :=
  match T.ty src, T.ty dst with
  | some i, some j =>
    match i.k, j.k, x with
    | .int _, .int k, .int _ n => some (.int k (wrapA k n), σ)
    | .string, .string, .str s => some (.str s, σ)
    | .string, .slice e, .str s => match T.ty e with
      | some z => match z.k with
        | .int .u8 => some (.sl σ.n 0 s.length s.length, σ.push ⟨intsOf s, 1, true⟩)
        | _ => none
      | none => none
    | .slice e, .string, x => match T.ty e with
      | some z => match z.k with
        | .int .u8 => match lenA x with
          | some n => match x with
            | .str _ => none
            | x => match firstA σ 1 n x with
              | some cs => match bytesOf cs with
                | some l => some (.str l, σ)
                | none => none
              | none => none
          | none => none
        | _ => none
      | none => none
    | _, _, _ => none
  | _, _ => none

/-- Cells filled in by parts. -/
def fillA (place : Nat → Option (Nat × Nat)) (cells : List AV) : List (Nat × AV) → Option (List AV)
  | [] => some cells
  | (i, v) :: r => match place i with
    | none => none
    | some (off, size) =>
      if v.cellsOf.length = size ∧ off + v.cellsOf.length ≤ cells.length ∧ allOne v.cellsOf = true then fillA place (putCells cells off v.cellsOf) r else none

def sizesOf (T : Tab) : List (TypeId × Nat) → Option (List (Nat × Nat))
  | [] => some []
  | (t, o) :: r => match T.ty t, sizesOf T r with
    | some i, some l => some ((o, i.size) :: l)
    | _, _ => none

def repeatCells (z : List AV) : Nat → List AV
  | 0 => []
  | n + 1 => z ++ repeatCells z n

def evPairs (env : Env) : List (Nat × Operand) → Option (List (Nat × AV))
  | [] => some []
  | (i, x) :: r => match evo env x, evPairs env r with
    | some a, some b => some ((i, a) :: b)
    | _, _ => none

def buildA (T : Tab) (t : TypeId) (parts : List (Nat × AV)) : Option AV :=
  match T.ty t with
  | some i => match i.k with
    | .struct fs => match sizesOf T fs with
      | some ps => match fillA (fun j => ps[j]?) i.zero parts with
        | some cs => some (.agg cs)
        | none => none
      | none => none
    | .array _ e => match T.ty e with
      | some z => match fillA (fun j => some (j * z.size, z.size)) i.zero parts with
        | some cs => some (.agg cs)
        | none => none
      | none => none
    | _ => none
  | none => none

def buildSliceA (T : Tab) (σ : St) (t : TypeId) (len : Nat) (parts : List (Nat × AV)) : Option (AV × St) :=
  match T.ty t with
  | some i => match i.k with
    | .slice e => match T.ty e with
      | some z =>
        if len * z.size ≤ 16777216 then
          match fillA (fun j => some (j * z.size, z.size)) (repeatCells z.zero len) parts with
          | some cs => some (.sl σ.n 0 len len, σ.push ⟨cs, z.size, false⟩)
          | none => none
        else none
      | none => none
    | _ => none
  | none => none

def makeSliceA (T : Tab) (σ : St) (t : TypeId) (l c : AV) : Option (AV × St) :=
  match T.ty t, l, c with
  | some i, .int _ l, .int _ c => match i.k with
    | .slice e => match T.ty e with
      | some z =>
        if 0 ≤ l ∧ l ≤ c ∧ c * z.bytes ≤ 140737488355328 ∧ c ≤ 9223372036854775807 then
          some (.sl σ.n 0 l.toNat c.toNat, σ.push ⟨repeatCells z.zero c.toNat, z.size, false⟩)
        else none
      | none => none
    | _ => none
  | _, _, _ => none

/-- A bound of a slice expression. -/
def boundA (x : Option AV) (y d : Nat) : Option Nat :=
  match x with
  | none => if d ≤ y then some d else none
  | some (.int _ i) => if 0 ≤ i ∧ i ≤ y then some i.toNat else none
  | some _ => none

/-- Does a row surely end with its cells? -/
def closedB (σ : St) (b : Nat) : Bool :=
  match σ.get b with
  | some y => !y.opn
  | none => false

def sliceA (T : Tab) (σ : St) (t : TypeId) (x : AV) (lo hi : Option AV) : Option AV :=
  match T.ty t with
  | some i => match i.k, x with
    | .string, .str s => match boundA hi s.length s.length with
      | some h => match boundA lo h 0 with
        | some l => some (.str ((s.take h).drop l))
        | none => none
      | none => none
    | .slice e, .sl b off len cap => match T.ty e with
      | some z => match boundA hi cap len with
        | some h => match boundA lo h 0 with
          | some l => if l = 0 ∨ l < cap then some (.sl b (off + l * z.size) (h - l) (cap - l)) else if closedB σ b = true then match σ.get b with
            | some y => if y.opn = false ∧ l = cap then some (.sl b off 0 0) else none
            | none => none else some (.lst 0 [])
          | none => none
        | none => none
      | none => none
    | .slice e, .lst len cs => match T.ty e with
      | some z => match boundA hi len len with
        | some h => match boundA lo h 0 with
          | some l => match getCells cs (l * z.size) ((h - l) * z.size) with
            | some cs' => some (.lst (h - l) cs')
            | none => none
          | none => none
        | none => none
      | none => none
    | .slice e, .nilS => match T.ty e with
      | some _ => match boundA hi 0 0 with
        | some h => match boundA lo h 0 with
          | some _ => some .nilS
          | none => none
        | none => none
      | none => none
    | .array n e, .ptr b off => match T.ty e, σ.get b with
      | some z, some y => match boundA hi n n with
        | some h => match boundA lo h 0 with
          | some l => if y.opn = false ∧ l < n then some (.sl b (off + l * z.size) (h - l) (n - l)) else none
          | none => none
        | none => none
      | _, _ => none
    | _, _ => none
  | none => none

/-- A slice expression with a third bound; where more room may lie behind, the outcome is not told. -/
def slice3A (T : Tab) (σ : St) (t : TypeId) (x : AV) (lo hi : Option AV) (mx : AV) : Option AV :=
  match T.ty t with
  | some i => match i.k, x, hi, mx with
    | .slice e, .sl b off _ cap, some (.int _ h), .int _ m => match T.ty e with
      | some z => if 0 ≤ m ∧ m ≤ cap ∧ 0 ≤ h ∧ h ≤ m then match boundA lo h.toNat 0 with
          | some l => match σ.get b with
            | some y => if y.opn = false ∧ (l = 0 ∨ l < m.toNat) then some (.sl b (off + l * z.size) (h.toNat - l) (m.toNat - l)) else some .und
            | none => some .und
          | none => none
        else none
      | none => none
    | _, _, _, _ => none
  | none => none

def fieldAddrA (T : Tab) (t : TypeId) (x : AV) (f : Nat) : Option AV :=
  match T.ty t with
  | some i => match i.k with
    | .struct fs => match fs[f]? with
      | some (ft, o) => match T.ty ft with
        | some z => if z.size = 0 then none else match x with
          | .ptr b off => some (.ptr b (off + o))
          | .lp cs off => some (.lp cs (off + o))
          | _ => none
        | none => none
      | none => none
    | _ => none
  | none => none

def partA (T : Tab) (t : TypeId) (cs : List AV) (off : Nat) : Option AV :=
  match T.ty t with
  | some z => match getCells cs off z.size with
    | some p => asVar z.k.isAgg p
    | none => none
  | none => none

def fieldA (T : Tab) (t : TypeId) (x : AV) (f : Nat) : Option AV :=
  match T.ty t with
  | some i => match i.k, x with
    | .struct fs, .agg cs => match fs[f]? with
      | some (ft, o) => partA T ft cs o
      | none => none
    | _, _ => none
  | none => none

def indexAddrA (T : Tab) (t : TypeId) (x ix : AV) : Option AV :=
  match T.ty t, ix with
  | some i, .int _ n => match i.k with
    | .slice e => match T.ty e with
      | some z => match x with
        | .sl b off len _ => bif inB n len then some (.ptr b (off + n.toNat * z.size)) else none
        | .lst len cs => bif inB n len then some (.lp cs (n.toNat * z.size)) else none
        | _ => none
      | none => none
    | .array len e => match T.ty e with
      | some z => bif inB n len then match x with
          | .ptr b off => some (.ptr b (off + n.toNat * z.size))
          | .lp cs off => some (.lp cs (off + n.toNat * z.size))
          | _ => none
        else none
      | none => none
    | _ => none
  | _, _ => none

def indexA (T : Tab) (t : TypeId) (x ix : AV) : Option AV :=
  match T.ty t, ix with
  | some i, .int _ n => match i.k, x with
    | .string, .str s => bif ileb 0 n then match s[n.toNat]? with
        | some b => some (.int .u8 b.toNat)
        | none => none
      else none
    | .array len e, .agg cs => match T.ty e with
      | some z => bif inB n len then partA T e cs (n.toNat * z.size) else none
      | none => none
    | _, _ => none
  | _, _ => none

def lenOpA (T : Tab) (t : TypeId) (x : AV) : Option AV :=
  match T.ty t with
  | some i => match i.k with
    | .array n _ => some (.int .i64 n)
    | .string => match x with
      | .str s => some (.int .i64 s.length)
      | _ => none
    | .slice _ => match x with
      | .str _ => none
      | x => match lenA x with
        | some n => some (.int .i64 n)
        | none => none
    | _ => none
  | none => none

def capOpA (T : Tab) (σ : St) (t : TypeId) (x : AV) : Option AV :=
  match T.ty t with
  | some i => match i.k, x with
    | .slice _, .sl b _ _ cap => match σ.get b with
      | some y => if y.opn = false then some (.int .i64 cap) else none
      | none => none
    | .slice _, .nilS => some (.int .i64 0)
    | _, _ => none
  | none => none

/-- How a row is told that an append has made: with its type if it is one of bytes. -/
def growE (z : TyI) (e : TypeId) (y : Blk) (off : Nat) : Nat :=
  match z.k, z.size with
  | .int .u8, 1 => if y.opn = false ∨ (y.esz = tagOf e 1 ∧ off = 0) then tagOf e 1 else 1
  | _, n => n
def newE (z : TyI) (e : TypeId) : Nat :=
  match z.k, z.size with
  | .int .u8, 1 => tagOf e 1
  | _, n => n

def appendA (T : Tab) (σ : St) (st xt : TypeId) (s x : AV) : Option (AV × St) :=
  match T.ty st, T.ty xt with
  | some i, some j => match i.k with
    | .slice e => match T.ty e, j.k with
      | _, .int _ => none
      | some z, _ => match lenA x with
        | some m => match firstA σ z.size m x with
          | some new =>
            if allOne new = false then none else
            match s with
            | .sl b off len cap =>
              if len + m ≤ cap then match storeCellsA σ b (off + len * z.size) new with
                | some σ' => some (.sl b off (len + m) cap, σ')
                | none => none
              else match σ.get b with
                | some y => match getCells y.cells off (len * z.size) with
                  | some old =>
                    if (len + m) * z.bytes ≤ 140737488355328 ∧ len + m ≤ 4611686018427387904 ∧ y.esz % 7000000000 = z.size ∧ y.cells.length = off + cap * z.size ∧ 0 < z.bytes then
                      let σ' := if y.opn then σ.del b else σ
                      some (.sl σ.n 0 (len + m) (len + m), σ'.push ⟨old ++ new, growE z e y off, true⟩)
                    else none
                  | none => none
                | none => none
            | .nilS =>
              if m = 0 then some (.nilS, σ) else
              if m * z.bytes ≤ 140737488355328 ∧ m ≤ 4611686018427387904 ∧ 0 < z.bytes then
                some (.sl σ.n 0 m m, σ.push ⟨new, newE z e, true⟩)
              else none
            | _ => none
          | none => none
        | none => none
      | none, _ => none
    | _ => none
  | _, _ => none

def copyA (T : Tab) (σ : St) (dt : TypeId) (d s : AV) : Option (AV × St) :=
  match T.ty dt, lenA s with
  | some i, some m => match i.k, d with
    | .slice e, .sl b off len _ => match T.ty e with
      | some z => match firstA σ z.size (Nat.min m len) s with
        | some cs => match storeCellsA σ b off cs with
          | some σ' => some (.int .i64 (Nat.min m len), σ')
          | none => none
        | none => none
      | none => none
    | .slice e, .nilS => match T.ty e with
      | some z => match firstA σ z.size 0 s with
        | some _ => some (.int .i64 0, σ)
        | none => none
      | none => none
    | _, _ => none
  | _, _ => none

def clearA (T : Tab) (σ : St) (t : TypeId) (x : AV) : Option (AV × St) :=
  match T.ty t with
  | some i => match i.k, x with
    | .slice _, .nilS => some (.und, σ)
    | .slice e, .sl b off len _ =>
      if len = 0 then some (.und, σ) else
      match T.ty e with
      | some z => match storeCellsA σ b off (repeatCells z.zero len) with
        | some σ' => some (.und, σ')
        | none => none
      | none => none
    | _, _ => none
  | none => none

def mmStep (mx : Bool) (k : IntKind) (x : Int) : List AV → Option AV
  | [] => some (.int k x)
  | .int _ y :: r => mmStep mx k (if mx = true then (if y > x then y else x) else (if y < x then y else x)) r
  | _ :: _ => none

def minmaxA (mx : Bool) : List AV → Option AV
  | .int k x :: r => mmStep mx k x r
  | _ => none

inductive Nx where
  | val (v : AV) (σ : St)
  | call (f : FuncId) (args : List AV)

def valS (σ : St) : Option AV → Option Nx
  | some v => some (.val v σ)
  | none => none

def val2 : Option (AV × St) → Option Nx
  | some (v, σ) => some (.val v σ)
  | none => none

def builtinA (T : Tab) (σ : St) (b : Builtin) (ts : List TypeId) (args : List AV) : Option Nx :=
  match b, ts, args with
  | .len, [t], [x] => valS σ (lenOpA T t x)
  | .cap, [t], [x] => valS σ (capOpA T σ t x)
  | .append, [st, xt], [s, x] => val2 (appendA T σ st xt s x)
  | .copy, [dt, _], [d, s] => val2 (copyA T σ dt d s)
  | .clear, [t], [x] => val2 (clearA T σ t x)
  | .min, _, args => valS σ (minmaxA false args)
  | .max, _, args => valS σ (minmaxA true args)
  | _, _, _ => none

def calleeA (f : AV) (args : List AV) : Option Nx :=
  match f with
  | .fn g first cap => some (.call g (first ++ args ++ cap))
  | _ => none

/-- An operand that may be missing. -/
def evOpt (env : Env) : Option Operand → Option (Option AV)
  | none => some none
  | some x => match evo env x with
    | some v => some (some v)
    | none => none

/-- Is it the type of whole numbers of 64 bits with a sign? -/
def isI64 (T : Tab) (t : TypeId) : Bool := match T.ty t with
  | some i => match i.k with
    | .int .i64 => true
    | _ => false
  | none => false
/-- A read of a number through slot 1: it must go through a frozen pointer, and looks at nothing of the heap. -/
def pureLd (T : Tab) (t : TypeId) (a : Operand) : Bool := match a with
  | .tmp s => decide (s = 1) && isI64 T t
  | _ => false
def loadP (T : Tab) (t : TypeId) (p : AV) : Option AV := match p with
  | .lp cs off => loadA T ⟨[], 0⟩ t (.lp cs off)
  | _ => none
/-- A number's variable is frozen as it comes in: nothing may be stored there. -/
def boxP (v : AV) (σ : St) : Option Nx := match v with
  | .int k n => some (.val (.lp [.int k n] 0) σ)
  | _ => none
def isFz (T : Tab) (op : Op) : Bool := match op with
  | .box e _ => isI64 T e
  | _ => false

def opA (T : Tab) (env : Env) (σ : St) (op : Op) : Option Nx :=
  match op with
  | .move x | .assign x => valS σ (evo env x)
  | .pick c a b => match evo env c with
    | some (.bool true) => valS σ (evo env a)
    | some (.bool false) => valS σ (evo env b)
    | _ => none
  | .alloc e => match T.ty e with
    | some i => some (.val (.ptr σ.n 0) (σ.push ⟨i.zero, tagZ e i.zero i.size, false⟩))
    | none => none
  | .box e x => match evo env x, T.ty e with
    | some v, some i => bif isI64 T e then boxP v σ else (if allOne v.cellsOf = true then some (.val (.ptr σ.n 0) (σ.push ⟨v.cellsOf, i.size, false⟩)) else none)
    | _, _ => none
  | .build t ps => match evPairs env ps.toList with
    | some l => valS σ (buildA T t l)
    | none => none
  | .buildSlice t n ps => match evPairs env ps.toList with
    | some l => val2 (buildSliceA T σ t n l)
    | none => none
  | .load t a => match evo env a with
    | some p => valS σ (bif pureLd T t a then loadP T t p else loadA T σ t p)
    | none => none
  | .store t a x => match evo env a, evo env x with
    | some p, some v => match storeA T σ t p v with
      | some σ' => some (.val .und σ')
      | none => none
    | _, _ => none
  | .nilCheck x => match evo env x with
    | some (.ptr b o) => some (.val (.ptr b o) σ)
    | some (.lp c o) => some (.val (.lp c o) σ)
    | some (.fn f a b) => some (.val (.fn f a b) σ)
    | _ => none
  | .binOp op t x y _ => match evo env x, evo env y with
    | some a, some b => valS σ (binA T op t a b)
    | _, _ => none
  | .unOp op _ x => match evo env x with
    | some a => valS σ (unA op a)
    | none => none
  | .convert src dst x => match evo env x with
    | some a => val2 (convA T σ src dst a)
    | none => none
  | .makeFunc fn first cap => match fn, evos env first.toList, evos env cap.toList with
    | .func f, some a, some b => some (.val (.fn f a b) σ)
    | _, _, _ => none
  | .makeSlice t l c => match evo env l, evo env c with
    | some a, some b => val2 (makeSliceA T σ t a b)
    | _, _ => none
  | .slice t x lo hi mx => match evo env x, evOpt env lo, evOpt env hi, evOpt env mx with
    | some v, some l, some h, some none => valS σ (sliceA T σ t v l h)
    | some v, some l, some h, some (some m) => valS σ (slice3A T σ t v l h m)
    | _, _, _, _ => none
  | .fieldAddr t x f => match evo env x with
    | some v => valS σ (fieldAddrA T t v f)
    | none => none
  | .field t x f => match evo env x with
    | some v => valS σ (fieldA T t v f)
    | none => none
  | .indexAddr t x i => match evo env x, evo env i with
    | some v, some n => valS σ (indexAddrA T t v n)
    | _, _ => none
  | .index t x i => match evo env x, evo env i with
    | some v, some n => valS σ (indexA T t v n)
    | _, _ => none
  | .extract x i => match evo env x with
    | some (.tup vs) => valS σ (vs[i]?)
    | _ => none
  | .call c => match c.callee, evos env c.args.toList with
    | .builtin b, some args => builtinA T σ b c.argTypes.toList args
    | .value f, some args => match evo env f with
      | some v => calleeA v args
      | none => none
    | _, _ => none
  | _ => none

/-! Regions -/
/-- Is an operation wanted? By its guard: the slot of the operation that it looks at. -/
def wantedA (all : Array Oper) (o : Oper) (env : Env) : Option Bool :=
  match o.guard with
  | none => some true
  | some (j, want) => match (all[j]?).bind (·.dst) with
    | some t => match lk env t with
      | some (.bool b) => some (b == want)
      | some (.tup []) => some false
      | _ => none
    | none => none

def putE (nt : Nat) (dst : Option Nat) (v : AV) (env : Env) : Option Env :=
  match dst with
  | none => some env
  | some t => if t < nt then some ((t, v) :: env) else none

def opStep (T : Tab) (call : FuncId → List AV → St → Option (AV × St)) (nt : Nat) (all : Array Oper) (o : Oper) (env : Env) (σ : St) : Option (Env × St) :=
  match wantedA all o env with
  | none => none
  | some false => match putE nt o.dst (.tup []) env with
    | some env' => some (env', σ)
    | none => none
  | some true => match opA T env σ o.op with
    | none => none
    | some (.val v σ') => match putE nt o.dst v env with
      | some env' => some (env', σ')
      | none => none
    | some (.call f args) => match call f args σ with
      | none => none
      | some (v, σ') => match putE nt o.dst v env with
        | some env' => some (env', σ')
        | none => none

def runOps (T : Tab) (call : FuncId → List AV → St → Option (AV × St)) (nt : Nat) (all : Array Oper) : List Oper → Env → St → Option (Env × St)
  | [], env, σ => some (env, σ)
  | o :: r, env, σ => match opStep T call nt all o env σ with
    | some (env', σ') => runOps T call nt all r env' σ'
    | none => none

/-- As 'runOps': every state on the way. -/
def runTr (T : Tab) (call : FuncId → List AV → St → Option (AV × St)) (nt : Nat) (all : Array Oper) : List Oper → Env → St → Option (List (Env × St))
  | [], env, σ => some [(env, σ)]
  | o :: r, env, σ => match opStep T call nt all o env σ with
    | some (env', σ') => match runTr T call nt all r env' σ' with
      | some l => some ((env, σ) :: l)
      | none => none
    | none => none

/-! Calls in a heap of their own -/
mutual
def AV.pure : AV → Bool
  | .sl .. | .ptr .. => false
  | .fn _ a b => pures a && pures b
  | .agg cs => pures cs
  | .tup vs => pures vs
  | _ => true
def pures : List AV → Bool
  | [] => true
  | x :: r => x.pure && pures r
end

mutual
/-- A value without memory of any kind. -/
def AV.scal : AV → Bool
  | .int .. | .bool _ | .str _ | .nilS | .nilP | .nilF | .nilI => true
  | .agg cs => scals cs
  | .tup vs => scals vs
  | _ => false
def scals : List AV → Bool
  | [] => true
  | x :: r => x.scal && scals r
end

mutual
def AV.eqv : AV → AV → Bool
  | .int k a, .int k' b => decide (k = k') && decide (a = b)
  | .bool a, .bool b => a == b
  | .str a, .str b => a == b
  | .lst n a, .lst m b => decide (n = m) && eqvs a b
  | .lp a n, .lp b m => decide (n = m) && eqvs a b
  | .sl a b c d, .sl a' b' c' d' => decide (a = a') && decide (b = b') && decide (c = c') && decide (d = d')
  | .ptr a b, .ptr a' b' => decide (a = a') && decide (b = b')
  | .nilS, .nilS => true
  | .nilP, .nilP => true
  | .nilF, .nilF => true
  | .nilI, .nilI => true
  | .fn f a b, .fn g c d => decide (f = g) && eqvs a c && eqvs b d
  | .agg a, .agg b => eqvs a b
  | .tup a, .tup b => eqvs a b
  | _, _ => false
def eqvs : List AV → List AV → Bool
  | [], [] => true
  | a :: x, b :: y => a.eqv b && eqvs x y
  | _, _ => false
end

def mapO {α β : Type} (f : α → Option β) : List α → Option (List β)
  | [] => some []
  | x :: r => match f x, mapO f r with
    | some a, some b => some (a :: b)
    | _, _ => none

/-- A value without memory of the heap: the slices' rows as lists. -/
def frzV (σ : St) : Nat → AV → Option AV
  | 0, _ => none
  | d + 1, v => match v with
    | .agg cs => match mapO (frzV σ d) cs with
      | some l => some (.agg l)
      | none => none
    | .tup cs => match mapO (frzV σ d) cs with
      | some l => some (.tup l)
      | none => none
    | .sl b off len cap => match σ.get b with
      | some y => match getCells y.cells off (len * (y.esz % 7000000000)) with
        | some cs => match mapO (frzV σ d) cs with
          | some l => if len ≤ cap then some (.lst len l) else none
          | none => none
        | none => none
      | none => none
    | .ptr .. => none
    | .fn f a c => if pures a && pures c then some (.fn f a c) else none
    | .und => none
    | v => some v

/-- The rows that 'frzV' looks into. -/
def rowsV (σ : St) : Nat → AV → List Nat
  | 0, _ => []
  | d + 1, v => match v with
    | .agg cs => cs.flatMap (rowsV σ d)
    | .tup cs => cs.flatMap (rowsV σ d)
    | .sl b off len _ => match σ.get b with
      | some y => match getCells y.cells off (len * (y.esz % 7000000000)) with
        | some cs => b :: cs.flatMap (rowsV σ d)
        | none => []
      | none => []
    | _ => []

def St.dels (σ : St) : List Nat → St
  | [] => σ
  | b :: r => St.dels (σ.del b) r

/-- The depth to which memory is frozen. -/
def frzDepth : Nat := 6

def frzR (σ1 σ : St) (rows : List Nat) (v : AV) : Option (AV × St) :=
  match frzV σ1 frzDepth v with
  | some v' => if v'.scal then some (v', σ) else some (v', σ.dels rows)
  | none => none

def ownL (f : St → List Nat → AV → Option (AV × St × List Nat)) : St → List Nat → List AV → Option (List AV × St × List Nat)
  | σ, used, [] => some ([], σ, used)
  | σ, used, v :: r => match f σ used v with
    | some (v', σ', used') => match ownL f σ' used' r with
      | some (l, σ'', used'') => some (v' :: l, σ'', used'')
      | none => none
    | none => none

/-- A result that a function hands over: its rows go into the caller's heap, those inside first. 'used': the rows that have been handed over. -/
def ownV (σ1 : St) : Nat → St → List Nat → AV → Option (AV × St × List Nat)
  | 0, _, _, _ => none
  | d + 1, σ, used, v => match v with
    | .sl b off len cap => match σ1.get b with
      | some y => match ownL (ownV σ1 d) σ used (y.cells.drop off) with
        | some (l, σ', used') => if used'.contains b = false ∧ off ≤ y.cells.length ∧ y.esz < 7000000000 then some (.sl σ'.n 0 len cap, σ'.push ⟨l, y.esz, y.opn⟩, b :: used') else none
        | none => none
      | none => none
    | .agg cs => match ownL (ownV σ1 d) σ used cs with
      | some (l, σ', used') => some (.agg l, σ', used')
      | none => none
    | v => if v.scal = true then some (v, σ, used) else none

def ownDepth : Nat := 6

def ownR (σ1 σ : St) (v : AV) : Option (AV × St) :=
  match v with
  | .tup vs => match ownL (ownV σ1 ownDepth) σ [] vs with
    | some (l, σ', _) => some (.tup l, σ')
    | none => none
  | v => match ownV σ1 ownDepth σ [] v with
    | some (x, σ', _) => some (x, σ')
    | none => none

def paramsE : Nat → List AV → Env
  | _, [] => []
  | i, x :: r => (i, x) :: paramsE (i + 1) r

inductive It where
  | code (c : Code)
  | blk (id : Nat)
  | lp (c : Code)

def exitA (id : Nat) : List It → Option (List It)
  | .blk i :: k => nif i id (some k) (exitA id k)
  | _ :: k => exitA id k
  | [] => none

def callA (T : Tab) (ex : FI → List It → Env → St → Option (AV × St)) (f : FuncId) (args : List AV) (σ : St) : Option (AV × St) :=
  match T.fn f with
  | none => T.ext f args σ
  | some F => match F.body with
    | none => none
    | some c =>
      if (T.an f).mode = 0 then ex (FI.of F (T.an f)) [.code c] (paramsE 0 args) σ
      else match mapO (frzV σ frzDepth) args with
        | none => none
        | some args' => match ex (FI.of F (T.an f)) [.code c] (paramsE 0 args') ⟨[], 0⟩ with
          | none => none
          | some (v, σ1) =>
            if (T.an f).mode = 1 then frzR σ1 σ (args.flatMap (rowsV σ frzDepth)) v
            else ownR σ1 σ v

/-- The results of a function. -/
def resA (T : Tab) (env : Env) (σ : St) : List ResultVar → Option (List AV)
  | [] => some []
  | .tmp t :: r => match lk env t, resA T env σ r with
    | some v, some l => some (v :: l)
    | _, _ => none
  | .cell a t :: r => match lk env a with
    | some p => match loadA T σ t p, resA T env σ r with
      | some v, some l => some (v :: l)
      | _, _ => none
    | none => none

def finA (T : Tab) (fi : FI) (env : Env) (σ : St) : Option (AV × St) :=
  match resA T env σ fi.res with
  | some [v] => some (v, σ)
  | some l => some (.tup l, σ)
  | none => none

/-! A region whose reads may come before or behind its effects -/
def lstAt {α : Type} : List α → Nat → Option α
  | [], _ => none
  | x :: _, 0 => some x
  | _ :: r, n + 1 => lstAt r n

def pairsOf : List (Nat × List (Nat × Nat)) → Nat → List (Nat × Nat)
  | [], _ => []
  | (i, l) :: r, id => nif i id l (pairsOf r id)

def sameVal (a b : Option Nx) : Bool :=
  match a, b with
  | some (.val v _), some (.val u _) => v.eqv u
  | _, _ => false

/-- Does the reading operation i yield the same on the other side of the effect j? -/
def pairOk (T : Tab) (ops : Array Oper) (tr : List (Env × St)) (i j : Nat) : Bool :=
  match ops[i]?, lstAt tr i, lstAt tr (bif Nat.blt j i then j else j + 1) with
  | some o, some (e, σ), some (_, σ') => match wantedA ops o e with
    | some true => sameVal (opA T e σ o.op) (opA T e σ' o.op)
    | _ => true
  | _, _, _ => false

def pairsOk (T : Tab) (ops : Array Oper) (tr : List (Env × St)) : List (Nat × Nat) → Bool
  | [] => true
  | (i, j) :: r => pairOk T ops tr i j && pairsOk T ops tr r

def lastOf {α : Type} : List α → Option α
  | [] => none
  | [x] => some x
  | _ :: r => lastOf r

/-- Makes a new row of plain cells and looks at nothing of the heap. -/
def freshOp (T : Tab) : Op → Bool
  | .alloc e => match T.ty e with
    | some z => scals z.zero
    | none => false
  | .makeSlice t _ _ => match T.ty t with
    | some i => match i.k with
      | .slice e => match T.ty e with
        | some z => scals z.zero
        | none => false
      | _ => false
    | none => false
  | .buildSlice t _ ps => ps.isEmpty && match T.ty t with
    | some i => match i.k with
      | .slice e => match T.ty e with
        | some z => scals z.zero
        | none => false
      | _ => false
    | none => false
  | _ => false

/-! How a region in two parts is told of in the list of pairs: first (1000000, _); the operations of the second part (1000001, i); those of them that may run early (1000002, i); then pairs. -/
def twoOf : List (Nat × Nat) → List Nat
  | [] => []
  | (a, b) :: r => nif a 1000001 (b :: twoOf r) (twoOf r)
def latOf : List (Nat × Nat) → List Nat
  | [] => []
  | (a, b) :: r => nif a 1000002 (b :: latOf r) (latOf r)
def prsOf : List (Nat × Nat) → List (Nat × Nat)
  | [] => []
  | (a, b) :: r => nif a 1000001 (prsOf r) (nif a 1000002 (prsOf r) ((a, b) :: prsOf r))
def memI (i : Nat) : List Nat → Bool
  | [] => false
  | x :: r => nif x i true (memI i r)

/-- As 'runTr'; operations of the second part and those that make new rows are left out. -/
def runTrF (T : Tab) (call : FuncId → List AV → St → Option (AV × St)) (nt : Nat) (all : Array Oper) (tw : List Nat) : Nat → List Oper → Env → St → Option (List (Env × St))
  | _, [], env, σ => some [(env, σ)]
  | i, o :: r, env, σ => match memI i tw || freshOp T o.op with
    | true => match runTrF T call nt all tw (i + 1) r env σ with
      | some l => some ((env, σ) :: l)
      | none => none
    | false => match opStep T call nt all o env σ with
      | some (env', σ') => match runTrF T call nt all tw (i + 1) r env' σ' with
        | some l => some ((env, σ) :: l)
        | none => none
      | none => none
/-- The operations of the first part that make new rows. -/
def selF (T : Tab) (tw : List Nat) : Nat → List Oper → List Oper
  | _, [] => []
  | i, o :: r => match !memI i tw && freshOp T o.op with
    | true => o :: selF T tw (i + 1) r
    | false => selF T tw (i + 1) r
/-- As 'runOps'; only operations of the second part. -/
def runTr2 (T : Tab) (call : FuncId → List AV → St → Option (AV × St)) (nt : Nat) (all : Array Oper) (tw : List Nat) : Nat → List Oper → Env → St → Option (Env × St)
  | _, [], env, σ => some (env, σ)
  | i, o :: r, env, σ => match memI i tw with
    | false => runTr2 T call nt all tw (i + 1) r env σ
    | true => match opStep T call nt all o env σ with
      | some (env', σ') => runTr2 T call nt all tw (i + 1) r env' σ'
      | none => none

/-- A region in two parts: the first one, of which those that make new rows come last; then the second one. -/
def regF (T : Tab) (call : FuncId → List AV → St → Option (AV × St)) (nt : Nat) (ops : Array Oper) (env : Env) (σ : St) (tw : List Nat) (ps : List (Nat × Nat)) : Option (Env × St) :=
  match runTrF T call nt ops tw 0 ops.toList env σ with
  | some tr => if pairsOk T ops tr ps = true then match lastOf tr with
      | some (e1, σ1) => match runOps T call nt ops (selF T tw 0 ops.toList) e1 σ1 with
        | some (e2, σ2) => runTr2 T call nt ops tw 0 ops.toList e2 σ2
        | none => none
      | none => none
    else none
  | none => none

def regOps (T : Tab) (call : FuncId → List AV → St → Option (AV × St)) (nt : Nat) (ops : Array Oper) (env : Env) (σ : St) : List (Nat × Nat) → Option (Env × St)
  | [] => runOps T call nt ops ops.toList env σ
  | p :: ps => nif p.1 1000000 (regF T call nt ops env σ (twoOf ps) (prsOf ps)) (match runTr T call nt ops ops.toList env σ with
      | some tr => if pairsOk T ops tr (p :: ps) = true then lastOf tr else none
      | none => none)

/-! What a region may leave behind -/
mutual
/-- The rows that a value names. -/
def AV.blks : AV → List Nat
  | .sl b _ _ _ => [b]
  | .ptr b _ => [b]
  | .fn _ a c => blksL a ++ blksL c
  | .agg cs => blksL cs
  | .tup cs => blksL cs
  | _ => []
def blksL : List AV → List Nat
  | [] => []
  | x :: r => x.blks ++ blksL r
end

def memB (b : Nat) : List Nat → Bool
  | [] => false
  | x :: r => Nat.beq x b || memB b r

def reachB (σ : St) : Nat → List Nat → List Nat → List Nat
  | 0, _, seen => seen
  | _ + 1, [], seen => seen
  | n + 1, b :: r, seen => match memB b seen with
    | true => reachB σ n r seen
    | false => match σ.get b with
      | some y => reachB σ n (blksL y.cells ++ r) (b :: seen)
      | none => reachB σ n r seen

def keepH (l : List Nat) : List (Nat × Blk) → List (Nat × Blk)
  | [] => []
  | (i, x) :: r => bif memB i l then (i, x) :: keepH l r else keepH l r

def St.keepB (l : List Nat) (σ : St) : St := ⟨keepH l σ.h, σ.n⟩

def envBlks : Env → List Nat
  | [] => []
  | (_, v) :: r => v.blks ++ envBlks r

/-- Behind a region whose number, plus a million, is named: the rows that no kept slot leads to are forgotten. -/
def gcE : List (Nat × List Nat) → Nat → Env → St → St
  | [], _, _, σ => σ
  | (i, _) :: r, id, env, σ => nif i (id + 1000000) (σ.keepB (reachB σ 100000 (envBlks env) [])) (gcE r id env σ)

def regA (T : Tab) (call : FuncId → List AV → St → Option (AV × St)) (fi : FI) (id : Nat) (ops : Array Oper) (draw : Bool) (env : Env) (σ : St) : Option (Env × St) :=
  match regOps T call fi.nt ops env σ (match draw with | true => pairsOf fi.dyn id | false => []) with
  | some (env', σ') => some (keepE fi.keep id env', gcE fi.keep id (keepE fi.keep id env') σ')
  | none => none

/-- One step of the interpreter, over what does the rest. -/
def execStep (T : Tab) (rest : FI → List It → Env → St → Option (AV × St)) (fi : FI) (its : List It) (env : Env) (σ : St) : Option (AV × St) :=
  match its with
  | [] => finA T fi env σ
  | .blk _ :: k => rest fi k env σ
  | .lp c :: k => rest fi (.code c :: .lp c :: k) env σ
  | .code c :: k => match c with
    | .skip => rest fi k env σ
    | .seq a b => rest fi (.code a :: .code b :: k) env σ
    | .region id ops d => match regA T (callA T rest) fi id ops d env σ with
      | some (env', σ') => rest fi k env' σ'
      | none => none
    | .cond x a b => match evo env x with
      | some (.bool t) => if t = true then rest fi (.code a :: k) env σ else rest fi (.code b :: k) env σ
      | _ => none
    | .block id a => rest fi (.code a :: .blk id :: k) env σ
    | .loop a => rest fi (.code a :: .lp a :: k) env σ
    | .exit id => match exitA id k with
      | some k' => rest fi k' env σ
      | none => none
    | .ret => finA T fi env σ
    | _ => none

/-- The interpreter: a stack of code, the slots that are known, the heap; its first argument bounds the number of steps. -/
def exec (T : Tab) (n : Nat) : FI → List It → Env → St → Option (AV × St) :=
  Nat.rec (motive := fun _ => FI → List It → Env → St → Option (AV × St)) (fun _ _ _ _ => none) (fun _ ih => execStep T ih) n

theorem exec_zero (T : Tab) : exec T 0 = fun _ _ _ _ => none := rfl
theorem exec_succ (T : Tab) (n : Nat) : exec T (n + 1) = execStep T (exec T n) := rfl

end Go.Abs
