/- Laws for contracts with letters: numbers, lists of numbers in the abstract heap, freezing. Nothing is claimed here; no condition. -/
import Derived.Test.YtjecbjnckbihoaaDoorAbsW
namespace Go.Abs
open Go

def thnC : Code → Code
  | .cond _ a _ => a
  | c => c
def elsC : Code → Code
  | .cond _ _ b => b
  | c => c
/-! ### Numbers -/
theorem wrapA_id {n : Int} (h1 : -9223372036854775808 ≤ n) (h2 : n ≤ 9223372036854775807) : wrapA .i64 n = n := by
  rw [wrapA_eq]; simp [IntKind.wrap, IntKind.bits, IntKind.signed]; omega
theorem wrapA_nat {n : Nat} (h2 : n ≤ 9223372036854775807) : wrapA .i64 (n : Int) = n := wrapA_id (by omega) (by omega)
theorem ieqb_dec (x y : Int) : ieqb x y = decide (x = y) := by
  rw [ieqb_eq]
  by_cases h : x = y
  · simp [h]
  · rw [decide_eq_false h]; exact beq_false_of_ne h
theorem inB_dec (n : Int) (len : Nat) : inB n len = decide (0 ≤ n ∧ n < len) := inB_eq n len

/-! ### The heap -/
theorem get_push_same {σ : St} {x : Blk} : (σ.push x).get σ.n = some x := by rw [get_push, if_pos rfl]
theorem get_push_ne {σ : St} {x : Blk} {b : Nat} (h : σ.n ≠ b) : (σ.push x).get b = σ.get b := by rw [get_push, if_neg h]
theorem get_push_lt {σ : St} {x : Blk} {b : Nat} (h : b < σ.n) : (σ.push x).get b = σ.get b := get_push_ne (by omega)
theorem n_push {σ : St} {x : Blk} : (σ.push x).n = σ.n + 1 := rfl
theorem n_del {σ : St} {b : Nat} : (σ.del b).n = σ.n := rfl
theorem n_set {σ : St} {b : Nat} {x : Blk} : (σ.set b x).n = σ.n := rfl
theorem get_set_eq {σ : St} {b : Nat} {x y : Blk} (h : σ.get b = some y) : (σ.set b x).get b = some x := get_set_same ⟨y, h⟩

/-! ### Lists of numbers -/
theorem ints_length (l : List Int) : (ints l).length = l.length := by simp [ints]
theorem ints_append (a b : List Int) : ints (a ++ b) = ints a ++ ints b := by simp [ints]
theorem ints_nil : ints [] = [] := rfl
theorem ints_cons (x : Int) (l : List Int) : ints (x :: l) = .int .i64 x :: ints l := rfl
theorem allOne_ints : ∀ (l : List Int), allOne (ints l) = true
  | [] => rfl
  | x :: r => by simp only [ints_cons, allOne, AV.one, Bool.true_and]; exact allOne_ints r
theorem scals_ints : ∀ (l : List Int), scals (ints l) = true
  | [] => rfl
  | x :: r => by simp only [ints_cons, scals, AV.scal, Bool.true_and]; exact scals_ints r
theorem getCells_get {l : List Int} {i : Nat} {x : Int} (h : l[i]? = some x) : getCells (ints l) i 1 = some [.int .i64 x] := by
  obtain ⟨hi, hx⟩ := List.getElem?_eq_some_iff.1 h
  rw [getCells_eq, if_pos (by rw [ints_length]; omega)]
  simp only [ints, ← List.map_drop, ← List.map_take]
  rw [List.drop_eq_getElem_cons hi, hx]
  rfl
theorem getCells_full {l : List Int} {n : Nat} (h : n = l.length) : getCells (ints l) 0 n = some (ints l) := by
  subst h
  rw [getCells_eq, if_pos (by simp [ints]), List.drop_zero, List.take_of_length_le (by simp [ints])]
theorem getCells_part {l : List Int} {o n : Nat} (h : o + n ≤ l.length) : getCells (ints l) o n = some (ints ((l.drop o).take n)) := by
  rw [getCells_eq, if_pos (by rw [ints_length]; exact h)]
  simp [ints, List.map_take, List.map_drop]
theorem putN_ints {l : List Int} {i : Nat} {x : Int} (h : i < l.length) : putN i [.int .i64 x] (ints l) = some (ints (l.set i x)) := by
  rw [putN_eq, if_pos (by simp [ints]; omega)]
  congr 1
  unfold putCells
  rw [ints, ints, List.map_set, List.set_eq_take_append_cons_drop, if_pos (by simpa using h)]
  simp
theorem store_ints {σ : St} {b i : Nat} {l : List Int} {e : Nat} {o : Bool} {x : Int} (hb : σ.get b = some ⟨ints l, e, o⟩) (h : i < l.length) : storeCellsA σ b i [.int .i64 x] = some (σ.set b ⟨ints (l.set i x), e, o⟩) := by
  unfold storeCellsA
  rw [hb]
  simp only [allOne, AV.one, Bool.and_self, putN_ints h]
theorem repeat_ints : ∀ n : Nat, repeatCells [.int .i64 0] n = ints (List.replicate n 0)
  | 0 => rfl
  | n + 1 => by rw [repeatCells, repeat_ints n]; rfl

/-! ### Freezing -/
section
variable {σ : St} {d : Nat}
theorem frzV_int {k : IntKind} {n : Int} : frzV σ (d + 1) (.int k n) = some (.int k n) := rfl
theorem frzV_bool {b : Bool} : frzV σ (d + 1) (.bool b) = some (.bool b) := rfl
theorem frzV_str {s : List UInt8} : frzV σ (d + 1) (.str s) = some (.str s) := rfl
theorem frzV_lst {n : Nat} {cs : List AV} : frzV σ (d + 1) (.lst n cs) = some (.lst n cs) := rfl
theorem frzV_nilS : frzV σ (d + 1) .nilS = some .nilS := rfl
theorem frzV_nilP : frzV σ (d + 1) .nilP = some .nilP := rfl
theorem frzV_nilF : frzV σ (d + 1) .nilF = some .nilF := rfl
theorem frzV_sl {b : Nat} {l : List Int} {o : Bool} {n c : Nat} (hb : σ.get b = some ⟨ints l, 1, o⟩) (hn : n = l.length) (hc : n ≤ c) : frzV σ (d + 2) (.sl b 0 n c) = some (.lst n (ints l)) := by
  unfold frzV
  simp only [hb, show 1 % 7000000000 = 1 from rfl, Nat.mul_one, getCells_full hn, frz_ints, hc, if_true]
theorem frzV_tup {cs l : List AV} (h : mapO (frzV σ d) cs = some l) : frzV σ (d + 1) (.tup cs) = some (.tup l) := by
  show (match mapO (frzV σ d) cs with | some l => some (AV.tup l) | none => none) = _
  rw [h]
theorem frzV_agg {cs l : List AV} (h : mapO (frzV σ d) cs = some l) : frzV σ (d + 1) (.agg cs) = some (.agg l) := by
  show (match mapO (frzV σ d) cs with | some l => some (AV.agg l) | none => none) = _
  rw [h]
end
theorem mapO_nil {α β : Type} {f : α → Option β} : mapO f [] = some [] := rfl
theorem mapO_cons {α β : Type} {f : α → Option β} {x : α} {r : List α} {y : β} {l : List β} (h1 : f x = some y) (h2 : mapO f r = some l) : mapO f (x :: r) = some (y :: l) := by
  simp only [mapO, h1, h2]

/-- An append of one number to a slice that is full. -/
theorem append_one {T : Tab} {σ : St} {b n : Nat} {l : List Int} {o : Bool} {x : Int} {st e : TypeId} (ht : T.ty st = some ⟨.slice e, 1, 24, [.nilS]⟩) (he : T.ty e = some ⟨.int .i64, 1, 8, [.int .i64 0]⟩)
    (hb : σ.get b = some ⟨ints l, 1, o⟩) (hbn : b < σ.n) (hn : n = l.length) (hs : n < 1000000000000) :
    appendA T (σ.push ⟨[.int .i64 x], 1, false⟩) st st (.sl b 0 n n) (.sl σ.n 0 1 1) =
      some (.sl (σ.n + 1) 0 (n + 1) (n + 1), (if o then (σ.push ⟨[.int .i64 x], 1, false⟩).del b else σ.push ⟨[.int .i64 x], 1, false⟩).push ⟨ints (l ++ [x]), 1, true⟩) := by
  unfold appendA
  have h1 : firstA (σ.push ⟨[.int .i64 x], 1, false⟩) 1 1 (.sl σ.n 0 1 1) = some [.int .i64 x] := by
    simp [firstA, get_push_same, getCells, dropN, takeN]
  have hg : (σ.push ⟨[.int .i64 x], 1, false⟩).get b = some ⟨ints l, 1, o⟩ := by rw [get_push_lt hbn]; exact hb
  simp only [ht, he, lenA, h1, allOne, AV.one, hg, Nat.mul_one, getCells_full hn, ints_length]
  rw [if_neg (by simp), if_neg (by omega), if_pos ⟨by omega, by omega, trivial, by omega, by omega⟩]
  cases o <;> simp [n_push, ints, growE]

theorem build_one {T : Tab} {σ : St} {st e : TypeId} {x : Int} (ht : T.ty st = some ⟨.slice e, 1, 24, [.nilS]⟩) (he : T.ty e = some ⟨.int .i64, 1, 8, [.int .i64 0]⟩) :
    buildSliceA T σ st 1 [(0, .int .i64 x)] = some (.sl σ.n 0 1 1, σ.push ⟨[.int .i64 x], 1, false⟩) := by
  simp [buildSliceA, ht, he, fillA, repeatCells, putCells, AV.cellsOf, allOne, AV.one]
theorem build_nil {T : Tab} {σ : St} {st e : TypeId} (ht : T.ty st = some ⟨.slice e, 1, 24, [.nilS]⟩) (he : T.ty e = some ⟨.int .i64, 1, 8, [.int .i64 0]⟩) :
    buildSliceA T σ st 0 [] = some (.sl σ.n 0 0 0, σ.push ⟨ints [], 1, false⟩) := by
  simp [buildSliceA, ht, he, fillA, repeatCells, ints]
theorem make_ints {T : Tab} {σ : St} {st e : TypeId} {n : Nat} (ht : T.ty st = some ⟨.slice e, 1, 24, [.nilS]⟩) (he : T.ty e = some ⟨.int .i64, 1, 8, [.int .i64 0]⟩) (hn : n ≤ 17592186044416) :
    makeSliceA T σ st (.int .i64 n) (.int .i64 n) = some (.sl σ.n 0 n n, σ.push ⟨ints (List.replicate n 0), 1, false⟩) := by
  unfold makeSliceA
  simp only [ht, he]
  rw [if_pos ⟨by omega, by omega, by omega, by omega⟩]
  simp [repeat_ints]

/-! ### Contracts -/
theorem mapO_some {α β : Type} {f : α → Option β} : ∀ {l : List α} {r : List β}, mapO f l = some r → r.length = l.length
  | [], r, h => by simp [mapO] at h; simp [h]
  | x :: l, r, h => by
    simp only [mapO] at h
    split at h
    · rename_i a b _ h2; cases h; simp [mapO_some h2]
    · cases h

/-- A function that yields a value without memory, in a heap of its own. -/
def FnV (T : Tab) (f : FuncId) (args' : List AV) (v : AV) : Prop := ∀ (σ : St) (args : List AV), mapO (frzV σ frzDepth) args = some args' → callI T f args σ = some (v, σ)

theorem FnV.mk {T : Tab} {f : FuncId} {F : Func} {c : Code} {args' : List AV} {v : AV} (hF : T.fn f = some F) (hB : F.body = some c) (hm : (T.an f).mode = 1)
    (hx : ∃ σ1, exI T (FI.of F (T.an f)) [.code c] (paramsE 0 args') ⟨[], 0⟩ = some (v, σ1)) (hs : ∀ σ1, frzV σ1 frzDepth v = some v) (hv : v.scal = true) : FnV T f args' v := by
  intro σ args ha
  obtain ⟨σ1, hx⟩ := hx
  refine cI_1 hF hB hm ha hx ?_
  unfold frzR
  rw [hs σ1]
  simp only [hv, if_true]

/-- A function that hands over a row of numbers of its own. -/
def FnS (T : Tab) (f : FuncId) (args' : List AV) (l : List Int) : Prop := ∀ (σ : St) (args : List AV), mapO (frzV σ frzDepth) args = some args' → ∃ o, callI T f args σ = some (.sl σ.n 0 l.length l.length, σ.push ⟨ints l, 1, o⟩)

theorem ownL_ints {σ1 : St} {d : Nat} {σ : St} {used : List Nat} : ∀ (l : List Int), ownL (ownV σ1 (d + 1)) σ used (ints l) = some (ints l, σ, used)
  | [] => rfl
  | x :: r => by
    have h : ownV σ1 (d + 1) σ used (.int .i64 x) = some (.int .i64 x, σ, used) := rfl
    simp only [ints_cons, ownL, h, ownL_ints r]
theorem own1_ints {σ1 σ : St} {b n c d : Nat} {used : List Nat} {l : List Int} {o : Bool} (hb : σ1.get b = some ⟨ints l, 1, o⟩) (hu : used.contains b = false) : ownV σ1 (d + 2) σ used (.sl b 0 n c) = some (.sl σ.n 0 n c, σ.push ⟨ints l, 1, o⟩, b :: used) := by
  unfold ownV
  simp only [hb, List.drop_zero, ownL_ints]
  rw [if_pos ⟨hu, by omega, by decide⟩]

theorem FnS.mk {T : Tab} {f : FuncId} {F : Func} {c : Code} {args' : List AV} {l : List Int} (hF : T.fn f = some F) (hB : F.body = some c) (hm : (T.an f).mode = 2)
    (hx : ∃ σ1 b o, exI T (FI.of F (T.an f)) [.code c] (paramsE 0 args') ⟨[], 0⟩ = some (.sl b 0 l.length l.length, σ1) ∧ σ1.get b = some ⟨ints l, 1, o⟩) : FnS T f args' l := by
  intro σ args ha
  obtain ⟨σ1, b, o, hx, hb⟩ := hx
  refine ⟨o, cI_2 hF hB hm ha hx ?_⟩
  unfold ownR
  simp only [ownDepth, own1_ints (d := 4) (used := []) hb rfl]

/-- ... and says whether there is one. -/
def optR (r : Option (List Int)) (σ : St) (o : Bool) : AV × St :=
  match r with
  | some l => (.tup [.sl σ.n 0 l.length l.length, .bool true], σ.push ⟨ints l, 1, o⟩)
  | none => (.tup [.nilS, .bool false], σ)
def FnO (T : Tab) (f : FuncId) (args' : List AV) (r : Option (List Int)) : Prop := ∀ (σ : St) (args : List AV), mapO (frzV σ frzDepth) args = some args' → ∃ o, callI T f args σ = some (optR r σ o)

theorem FnO.mkS {T : Tab} {f : FuncId} {F : Func} {c : Code} {args' : List AV} {l : List Int} (hF : T.fn f = Option.some F) (hB : F.body = Option.some c) (hm : (T.an f).mode = 2)
    (hx : ∃ σ1 b o, exI T (FI.of F (T.an f)) [.code c] (paramsE 0 args') ⟨[], 0⟩ = Option.some (.tup [.sl b 0 l.length l.length, .bool true], σ1) ∧ σ1.get b = Option.some ⟨ints l, 1, o⟩) : FnO T f args' (Option.some l) := by
  intro σ args ha
  obtain ⟨σ1, b, o, hx, hb⟩ := hx
  refine ⟨o, cI_2 hF hB hm ha hx ?_⟩
  unfold ownR
  simp only [ownL, ownDepth, own1_ints (d := 4) (used := []) hb rfl]
  rfl

theorem FnO.mkN {T : Tab} {f : FuncId} {F : Func} {c : Code} {args' : List AV} (hF : T.fn f = Option.some F) (hB : F.body = Option.some c) (hm : (T.an f).mode = 2)
    (hx : ∃ σ1, exI T (FI.of F (T.an f)) [.code c] (paramsE 0 args') ⟨[], 0⟩ = Option.some (.tup [.nilS, .bool false], σ1)) : FnO T f args' Option.none := by
  intro σ args ha
  obtain ⟨σ1, hx⟩ := hx
  exact ⟨false, cI_2 hF hB hm ha hx rfl⟩

/-! ### Rows -/
/-- A row of numbers that a slice shows whole. -/
def Row (σ : St) (b : Nat) (l : List Int) : Prop := ∃ o, σ.get b = some ⟨ints l, 1, o⟩ ∧ b < σ.n
/-- All rows but one are as they were. -/
def Apart (b : Nat) (σ σ' : St) : Prop := σ.n ≤ σ'.n ∧ ∀ c, c ≠ b → c < σ.n → σ'.get c = σ.get c

theorem wrapS {n : Nat} (h : n < 1000000000000) : wrapA .i64 ((n : Int) + 1) = (n : Int) + 1 := wrapA_id (by omega) (by omega)
theorem set_app (pre r : List Int) (x y : Int) : (pre ++ y :: r).set pre.length x = pre ++ x :: r := by simp
/-- A store of one number, as a step of rows. -/
theorem store_row {σ : St} {b i : Nat} {l : List Int} {x : Int} (hb : Row σ b l) (h : i < l.length) :
    ∃ σ', storeCellsA σ b i [.int .i64 x] = some σ' ∧ Row σ' b (l.set i x) ∧ σ'.n = σ.n ∧ ∀ c, c ≠ b → σ'.get c = σ.get c := by
  obtain ⟨o, hg, hlt⟩ := hb
  exact ⟨_, store_ints hg h, ⟨o, get_set_eq hg, hlt⟩, rfl, fun c hc => get_set_ne (fun e => hc e.symm)⟩
theorem Row.cells {σ : St} {b : Nat} {l : List Int} (h : Row σ b l) : ∃ y, σ.get b = some y ∧ y.cells = ints l := by
  obtain ⟨o, h, _⟩ := h; exact ⟨_, h, rfl⟩
theorem Row.read {σ : St} {b i : Nat} {l : List Int} {x : Int} (h : Row σ b l) (hx : l[i]? = some x) : cellsAt σ (.ptr b i) 1 = some [.int .i64 x] := by
  obtain ⟨o, h, _⟩ := h
  simp only [cellsAt, h]
  exact getCells_get hx
theorem Row.keep {σ σ' : St} {b : Nat} {l : List Int} (h : Row σ b l) (hn : σ.n ≤ σ'.n) (he : σ'.get b = σ.get b) : Row σ' b l := by
  obtain ⟨o, h, hlt⟩ := h; exact ⟨o, by rw [he]; exact h, by omega⟩
theorem Row.push {σ : St} {l : List Int} {o : Bool} : Row (σ.push ⟨ints l, 1, o⟩) σ.n l := ⟨o, get_push_same, Nat.lt_succ_self _⟩
theorem Row.pushed {σ : St} {b : Nat} {l : List Int} {x : Blk} (h : Row σ b l) : Row (σ.push x) b l := by
  obtain ⟨o, hg, hlt⟩ := h; exact ⟨o, by rw [get_push_lt hlt]; exact hg, Nat.lt_succ_of_lt hlt⟩
theorem Row.frz {σ : St} {b : Nat} {l : List Int} {d n c : Nat} (h : Row σ b l) (hn : n = l.length) (hc : n ≤ c) : frzV σ (d + 2) (.sl b 0 n c) = some (.lst n (ints l)) := by
  obtain ⟨o, hg, _⟩ := h; exact frzV_sl hg hn hc
theorem lst_read {l : List Int} {i : Nat} {x : Int} {σ : St} (hx : l[i]? = some x) : cellsAt σ (.lp (ints l) i) 1 = some [.int .i64 x] := getCells_get hx

/-- All rows stay; new ones may have come. -/
def Old (σ σ' : St) : Prop := σ.n ≤ σ'.n ∧ ∀ c, c < σ.n → σ'.get c = σ.get c
/-- All rows but one stay. -/
def But (b : Nat) (σ σ' : St) : Prop := σ'.n = σ.n ∧ ∀ c, c ≠ b → σ'.get c = σ.get c
theorem Old.refl (σ : St) : Old σ σ := ⟨Nat.le_refl _, fun _ _ => rfl⟩
theorem Old.push {σ : St} {x : Blk} : Old σ (σ.push x) := ⟨Nat.le_succ _, fun _ h => get_push_lt h⟩
theorem Old.trans {a b c : St} (h : Old a b) (k : Old b c) : Old a c := ⟨Nat.le_trans h.1 k.1, fun x hx => (k.2 x (Nat.lt_of_lt_of_le hx h.1)).trans (h.2 x hx)⟩
theorem Row.lt {σ : St} {b : Nat} {l : List Int} (h : Row σ b l) : b < σ.n := by obtain ⟨_, _, h⟩ := h; exact h
theorem Row.old {σ σ' : St} {b : Nat} {l : List Int} (h : Row σ b l) (k : Old σ σ') : Row σ' b l := h.keep k.1 (k.2 b h.lt)
theorem Row.but {σ σ' : St} {b c : Nat} {l : List Int} (h : Row σ c l) (hc : c ≠ b) (k : But b σ σ') : Row σ' c l := h.keep (Nat.le_of_eq k.1.symm) (k.2 c hc)

theorem FnS.row {T : Tab} {f : FuncId} {args' args : List AV} {l : List Int} (h : FnS T f args' l) {σ : St} (ha : mapO (frzV σ frzDepth) args = some args') :
    ∃ b σ', callI T f args σ = some (.sl b 0 l.length l.length, σ') ∧ Row σ' b l ∧ Old σ σ' ∧ σ.n = b := by
  obtain ⟨o, h⟩ := h σ args ha
  exact ⟨σ.n, _, h, Row.push, Old.push, rfl⟩
theorem FnO.row {T : Tab} {f : FuncId} {args' args : List AV} {l : List Int} (h : FnO T f args' (Option.some l)) {σ : St} (ha : mapO (frzV σ frzDepth) args = some args') :
    ∃ b σ', callI T f args σ = some (.tup [.sl b 0 l.length l.length, .bool true], σ') ∧ Row σ' b l ∧ Old σ σ' ∧ σ.n = b := by
  obtain ⟨o, h⟩ := h σ args ha
  exact ⟨σ.n, _, h, Row.push, Old.push, rfl⟩
theorem FnO.nil {T : Tab} {f : FuncId} {args' args : List AV} (h : FnO T f args' Option.none) {σ : St} (ha : mapO (frzV σ frzDepth) args = some args') :
    callI T f args σ = some (.tup [.nilS, .bool false], σ) := by
  obtain ⟨o, h⟩ := h σ args ha
  exact h

/-- An append of one number, as a step of rows. -/
theorem append_row {T : Tab} {σ : St} {b n : Nat} {l : List Int} {x : Int} {st e : TypeId} (ht : T.ty st = some ⟨.slice e, 1, 24, [.nilS]⟩) (he : T.ty e = some ⟨.int .i64, 1, 8, [.int .i64 0]⟩)
    (hb : Row σ b l) (hn : n = l.length) (hs : n < 1000000000000) :
    ∃ σ', appendA T (σ.push ⟨[.int .i64 x], 1, false⟩) st st (.sl b 0 n n) (.sl σ.n 0 1 1) = some (.sl (σ.n + 1) 0 (n + 1) (n + 1), σ') ∧ Row σ' (σ.n + 1) (l ++ [x]) ∧ σ'.n = σ.n + 2 ∧ ∀ c, c ≠ b → c < σ.n → σ'.get c = σ.get c := by
  obtain ⟨o, hg, hlt⟩ := hb
  refine ⟨_, append_one ht he hg hlt hn hs, ?_, ?_, ?_⟩
  · refine ⟨true, ?_, ?_⟩
    · cases o <;> exact get_push_same
    · cases o <;> simp [n_push, n_del]
  · cases o <;> rfl
  · intro c hc hcn
    have hd : ∀ τ : St, τ.n = σ.n + 1 → (τ.push ⟨ints (l ++ [x]), 1, true⟩).get c = τ.get c := fun τ h => get_push_lt (by omega)
    cases o
    · simp only [Bool.false_eq_true, if_false]
      rw [hd _ rfl, get_push_lt hcn]
    · simp only [if_true]
      rw [hd _ rfl, get_del_ne (fun e => hc e.symm), get_push_lt hcn]

end Go.Abs
