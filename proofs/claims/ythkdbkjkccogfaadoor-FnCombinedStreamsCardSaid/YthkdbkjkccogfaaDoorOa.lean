/- Contracts that the law of combined streams needs. Nothing is claimed here; no condition. -/
import Derived.Test.YthkdbkjkccogfaaDoorHd
import Derived.Test.YthkdbkjkccogfaaDoorWx
import Derived.Test.YthkdbkjkccogfaaDoorAbsT
import Derived.Test.YthkdbkjkccogfaaDoorXq
set_option linter.unusedSimpArgs false
set_option linter.unusedVariables false
namespace Go.Proofs.YthkdbkjkccogfaaDoor
open Go Go.Abs
open Go.Abs
/-- A row of bytes that a slice shows whole. -/
def BRow (σ : St) (b : Nat) (l : List UInt8) : Prop := ∃ z o, σ.get b = some ⟨intsOf l, z, o⟩ ∧ ((z = 1 ∧ o = false) ∨ z = tagOf 5 1) ∧ b < σ.n
theorem BRow.push (σ : St) (l : List UInt8) : BRow (σ.push ⟨intsOf l, 1, false⟩) σ.n l := ⟨1, false, get_push_same, .inl ⟨rfl, rfl⟩, Nat.lt_succ_self _⟩
theorem BRow.lt {σ : St} {b : Nat} {l : List UInt8} (h : BRow σ b l) : b < σ.n := by obtain ⟨_, _, _, _, h⟩ := h; exact h
theorem BRow.keep {σ σ' : St} {b : Nat} {l : List UInt8} (h : BRow σ b l) (hn : σ.n ≤ σ'.n) (he : σ'.get b = σ.get b) : BRow σ' b l := by
  obtain ⟨z, o, h1, h2, h3⟩ := h; exact ⟨z, o, by rw [he]; exact h1, h2, by omega⟩
theorem intsOf_length : ∀ l : List UInt8, (intsOf l).length = l.length
  | [] => rfl
  | _ :: r => by simp [intsOf, intsOf_length r]
theorem intsOf_append : ∀ a b : List UInt8, intsOf (a ++ b) = intsOf a ++ intsOf b
  | [], _ => rfl
  | _ :: r, b => by simp [intsOf, intsOf_append r b]
theorem bytesOf_intsOf : ∀ l : List UInt8, bytesOf (intsOf l) = some l
  | [] => rfl
  | x :: r => by simp [intsOf, bytesOf, bytesOf_intsOf r]
theorem getCells_intsOf {l : List UInt8} {n : Nat} (h : n = l.length) : getCells (intsOf l) 0 n = some (intsOf l) := by
  subst h
  rw [getCells_eq, if_pos (by simp [intsOf_length]), List.drop_zero, List.take_of_length_le (by simp [intsOf_length])]
theorem tag_m : tagOf 5 1 % 7000000000 = 1 := by decide
theorem bappend {T : Tab} {σ : St} {b n : Nat} {l : List UInt8} {x : UInt8} {st : TypeId} (ht : T.ty st = some ⟨.slice 5, 1, 24, [.nilS]⟩) (he : T.ty 5 = some ⟨.int .u8, 1, 1, [.int .u8 0]⟩)
    (hb : BRow σ b l) (hn : n = l.length) (hs : n < 1000000000000) :
    ∃ σ', appendA T (σ.push ⟨[.int .u8 x.toNat], 1, false⟩) st st (.sl b 0 n n) (.sl σ.n 0 1 1) = some (.sl (σ.n + 1) 0 (n + 1) (n + 1), σ') ∧ BRow σ' (σ.n + 1) (l ++ [x]) ∧ σ'.n = σ.n + 2 ∧ (∃ o, σ'.get (σ.n + 1) = some ⟨intsOf (l ++ [x]), tagOf 5 1, o⟩) ∧ ∀ c, c ≠ b → c < σ.n → σ'.get c = σ.get c := by
  obtain ⟨z, o, hg0, hz, hbn⟩ := hb
  have hg : (σ.push ⟨[.int .u8 x.toNat], 1, false⟩).get b = some ⟨intsOf l, z, o⟩ := by rw [get_push_lt hbn]; exact hg0
  have h1 : firstA (σ.push ⟨[.int .u8 x.toNat], 1, false⟩) 1 1 (.sl σ.n 0 1 1) = some [.int .u8 x.toNat] := by
    simp [firstA, get_push_same, getCells, dropN, takeN]
  have hm : z % 7000000000 = 1 := by
    rcases hz with ⟨rfl, _⟩ | rfl
    · rfl
    · exact tag_m
  have hgr : growE ⟨.int .u8, 1, 1, [.int .u8 0]⟩ 5 ⟨intsOf l, z, o⟩ 0 = tagOf 5 1 := by
    unfold growE
    rcases hz with ⟨_, rfl⟩ | rfl
    · simp
    · simp
  have ha : appendA T (σ.push ⟨[.int .u8 x.toNat], 1, false⟩) st st (.sl b 0 n n) (.sl σ.n 0 1 1) =
      some (.sl (σ.n + 1) 0 (n + 1) (n + 1), (if o then (σ.push ⟨[.int .u8 x.toNat], 1, false⟩).del b else σ.push ⟨[.int .u8 x.toNat], 1, false⟩).push ⟨intsOf (l ++ [x]), tagOf 5 1, true⟩) := by
    unfold appendA
    simp only [ht, he, lenA, h1, allOne, AV.one, hg, Nat.mul_one, getCells_intsOf hn, intsOf_length]
    rw [if_neg (by simp), if_neg (by omega), if_pos ⟨by omega, by omega, hm, by omega, by omega⟩, hgr]
    cases o <;> simp [n_push, intsOf, intsOf_append]
  have hget : ∀ τ : St, τ.n = σ.n + 1 → (τ.push ⟨intsOf (l ++ [x]), tagOf 5 1, true⟩).get (σ.n + 1) = some ⟨intsOf (l ++ [x]), tagOf 5 1, true⟩ := fun τ h => by rw [← h]; exact get_push_same
  refine ⟨_, ha, ⟨tagOf 5 1, true, ?_, .inr rfl, ?_⟩, ?_, ⟨true, ?_⟩, ?_⟩
  · cases o <;> exact hget _ rfl
  · cases o <;> simp [n_push, n_del]
  · cases o <;> rfl
  · cases o <;> exact hget _ rfl
  · intro c hc hcn
    have hd : ∀ τ : St, τ.n = σ.n + 1 → (τ.push ⟨intsOf (l ++ [x]), tagOf 5 1, true⟩).get c = τ.get c := fun τ h => get_push_lt (by omega)
    cases o
    · simp only [Bool.false_eq_true, if_false]
      rw [hd _ rfl, get_push_lt hcn]
    · simp only [if_true]
      rw [hd _ rfl, get_del_ne (fun e => hc e.symm), get_push_lt hcn]
theorem bb1 (σ : St) (x : UInt8) : buildSliceA TT σ 32 1 [(0, .int .u8 x.toNat)] = some (.sl σ.n 0 1 1, σ.push ⟨[.int .u8 x.toNat], 1, false⟩) := by
  simp [buildSliceA, ty32, ty5, fillA, repeatCells, putCells, AV.cellsOf, allOne, AV.one]
theorem bb0 (σ : St) : buildSliceA TT σ 32 0 [] = some (.sl σ.n 0 0 0, σ.push ⟨intsOf [], 1, false⟩) := by
  simp [buildSliceA, ty32, ty5, fillA, repeatCells, intsOf]
theorem toStr {σ : St} {b n : Nat} {l : List UInt8} (h : BRow σ b l) (hn : n = l.length) : convA TT σ 32 9 (.sl b 0 n n) = some (.str l, σ) := by
  obtain ⟨z, o, hg, _, _⟩ := h
  simp [convA, ty32, ty9, ty5, lenA, firstA, hg, getCells_intsOf hn, bytesOf_intsOf]
/-- The letter of a bit. -/
def bb (p : Nat) : UInt8 := UInt8.ofNat (48 + p)
theorem bb_nat {p : Nat} (h : p < 2) : (bb p).toNat = 48 + p := by
  have : p = 0 ∨ p = 1 := by omega
  rcases this with rfl | rfl <;> rfl
theorem bb_conv {p : Nat} (h : p < 2) (σ : St) : convA TT σ 2 5 (.int .i64 (48 + (p : Int))) = some (.int .u8 ((bb p).toNat : Nat), σ) := by
  have : wrapA .u8 ((48 + p : Nat) : Int) = ((48 + p : Nat) : Int) := w_wrap .u8 (by simp only [topOf]; omega)
  rw [bb_nat h, ← this]
  simp [convA, ty2, ty5]
theorem bb_wrap {p : Nat} (h : p < 2) : wrapA .i64 (48 + (p : Int)) = 48 + (p : Int) := wrapA_id (by omega) (by omega)
/-- A builder in the heap, the row of its bytes, its bytes. -/
def Bld (σ : St) (q r : Nat) (l : List UInt8) : Prop := q < σ.n ∧ ∃ p s, σ.get q = some ⟨[p, s], tagOf 117 2, false⟩ ∧ (p = .nilP ∨ p = .ptr q 0) ∧
  ((r = q ∧ s = .nilS ∧ l = []) ∨ (r ≠ q ∧ s = .sl r 0 l.length l.length ∧ r < σ.n ∧ l ≠ [] ∧ ∃ o, σ.get r = some ⟨intsOf l, tagOf 5 1, o⟩))
theorem Bld.keep {σ σ' : St} {q r : Nat} {l : List UInt8} (h : Bld σ q r l) (hn : σ.n ≤ σ'.n) (h1 : σ'.get q = σ.get q) (h2 : σ'.get r = σ.get r) : Bld σ' q r l := by
  obtain ⟨a, p, s, b, c, d⟩ := h
  refine ⟨by omega, p, s, by rw [h1]; exact b, c, ?_⟩
  rcases d with d | ⟨d1, d2, d3, d4, o, d5⟩
  · exact .inl d
  · exact .inr ⟨d1, d2, by omega, d4, o, by rw [h2]; exact d5⟩
theorem Bld.new (σ : St) : Bld (σ.push ⟨[.nilP, .nilS], tagOf 117 2, false⟩) σ.n σ.n [] := ⟨Nat.lt_succ_self _, .nilP, .nilS, get_push_same, .inl rfl, .inl ⟨rfl, rfl, rfl⟩⟩
theorem callI_ext {T : Tab} {f : FuncId} {args : List AV} {σ : St} (h : T.fn f = none) : callI T f args σ = T.ext f args σ := by
  unfold callI callA; rw [h]
theorem bytesB_ints : ∀ l : List UInt8, bytesB (intsOf l) = some l
  | [] => rfl
  | x :: r => by
    have h1 : inB (x.toNat : Int) 256 = true := by rw [inB_dec]; exact decide_eq_true ⟨by omega, by have := x.toNat_lt; omega⟩
    show (bif inB (x.toNat : Int) 256 then match bytesB (intsOf r) with
      | some l => some (UInt8.ofNat (x.toNat : Int).toNat :: l)
      | none => none else none) = _
    rw [h1, bytesB_ints r]
    simp
theorem c132 {σ : St} {q r : Nat} {l : List UInt8} (h : Bld σ q r l) : ∃ σ' s, callI TT 132 [.ptr q 0] σ = some (.tup [], σ') ∧ σ'.get q = some ⟨[.ptr q 0, s], tagOf 117 2, false⟩ ∧ σ'.n = σ.n ∧ (∀ c, c ≠ q → σ'.get c = σ.get c) ∧
    ((r = q ∧ s = .nilS ∧ l = []) ∨ (r ≠ q ∧ s = .sl r 0 l.length l.length ∧ r < σ.n ∧ l ≠ [] ∧ ∃ o, σ'.get r = some ⟨intsOf l, tagOf 5 1, o⟩)) := by
  obtain ⟨a, p, s, b, c, d⟩ := h
  rcases c with rfl | rfl
  · refine ⟨σ.set q ⟨[.ptr q 0, s], tagOf 117 2, false⟩, s, ?_, get_set_eq b, rfl, fun c hc => get_set_ne (fun e => hc e.symm), ?_⟩
    · rw [callI_ext rfl]
      show extB 132 [.ptr q 0] σ = _
      simp [extB, b]
    · rcases d with d | ⟨d1, d2, d3, d4, o, d5⟩
      · exact .inl d
      · exact .inr ⟨d1, d2, d3, d4, o, by rw [get_set_ne (fun e => d1 e.symm)]; exact d5⟩
  · refine ⟨σ, s, ?_, b, rfl, fun c hc => rfl, d⟩
    rw [callI_ext rfl]
    show extB 132 [.ptr q 0] σ = _
    simp [extB, b]
theorem c92 {σ : St} {q r : Nat} {l : List UInt8} (h : Bld σ q r l) (hl : l.length ≤ 9223372036854775807) : ∃ σ', callI TT 92 [.ptr q 0] σ = some (.str l, σ') ∧ σ'.n = σ.n ∧ ∀ c, c ≠ r → σ'.get c = σ.get c := by
  obtain ⟨a, p, s, b, c, d⟩ := h
  rcases d with ⟨rfl, rfl, rfl⟩ | ⟨d1, rfl, d3, d4, o, d5⟩
  · refine ⟨σ, ?_, rfl, fun _ _ => rfl⟩
    rw [callI_ext rfl]
    show extB 92 [.ptr r 0] σ = _
    simp [extB, b]
  · refine ⟨σ.del r, ?_, rfl, fun c hc => get_del_ne (fun e => hc e.symm)⟩
    have h0 : l.length ≠ 0 := by simpa using d4
    rw [callI_ext rfl]
    show extB 92 [.ptr q 0] σ = _
    simp [extB, b, d5, getCells_intsOf rfl, bytesB_ints, d4, hl]
set_option maxHeartbeats 2000000 in
theorem k91 (q m n : Nat) (x : Int) (s : AV) (σ σ1 σ2 σ3 : St) (c1 : callI TT 132 [.ptr q 0] σ = some (.tup [], σ1)) (l1 : cellsAt σ1 (.ptr q 1) 1 = some [s]) (b1 : buildSliceA TT σ1 32 1 [(0, .int .u8 x)] = some (.sl σ1.n 0 1 1, σ2)) (a1 : appendA TT σ2 32 32 s (.sl σ1.n 0 1 1) = some (.sl m 0 n n, σ3)) (σ4 : St) (s1 : storeCellsA σ3 q 1 [.sl m 0 n n] = some σ4) :
    callI TT 91 [.ptr q 0, .int .u8 x] σ = some (.nilI, σ4) := by
  rw [cI_0 fn91 rfl md91, fi91]
  simp [xI_seq, xI_region, xI_ret, regA, regOps, runOps, opStep, wantedA, opA, evo, evos, calleeA, lk, nif_eq, putE, paramsE, valS, val2, keepE, restrict, finA, resA, binA, binInt, ofConst, ofConst1, loadA, TK.isAgg, asVar, unA, builtinA, lenOpA, lenA, ileb_cast, ileb_eq, ieqb_dec, indexAddrA, inB_dec, evPairs, storeA, AV.cellsOf, pairsOf, xI_nil, binBool, gcE, evOpt, tagZ, xI_block, xI_loopH, xI_condM, xI_exitM, xI_skip, xI_blk, exitA, ty5, ty32, ty117, runTr, pairsOk, pairOk, lstAt, lastOf, sameVal, AV.eqv, eqvs, regOps, cond_true, cond_false, fieldAddrA, ty117, ty32, ty115, c1, l1, b1, a1, s1]
theorem c91 {σ : St} {q r : Nat} {l : List UInt8} (h : Bld σ q r l) (hs : l.length < 1000000000000) (x : UInt8) : ∃ σ' r', callI TT 91 [.ptr q 0, .int .u8 x.toNat] σ = some (.nilI, σ') ∧ Bld σ' q r' (l ++ [x]) ∧ σ.n ≤ r' ∧ σ.n ≤ σ'.n ∧ ∀ c, c < σ.n → c ≠ q → c ≠ r → σ'.get c = σ.get c := by
  have hqn := h.1
  obtain ⟨σ1, s, c1, g1, n1, o1, d⟩ := c132 h
  have l1 : cellsAt σ1 (.ptr q 1) 1 = some [s] := by simp [cellsAt, g1, getCells, takeN, dropN]
  have b1 := bb1 σ1 x
  rcases d with ⟨rfl, rfl, rfl⟩ | ⟨d1, rfl, d3, d4, o, d5⟩
  · have a1 : appendA TT (σ1.push ⟨[.int .u8 x.toNat], 1, false⟩) 32 32 .nilS (.sl σ1.n 0 1 1) = some (.sl (σ1.n + 1) 0 1 1, (σ1.push ⟨[.int .u8 x.toNat], 1, false⟩).push ⟨intsOf [x], tagOf 5 1, true⟩) := by
      simp [appendA, ty32, ty5, lenA, firstA, get_push_same, getCells, dropN, takeN, allOne, AV.one, newE, n_push, intsOf]
    have g3 : ((σ1.push ⟨[.int .u8 x.toNat], 1, false⟩).push ⟨intsOf [x], tagOf 5 1, true⟩).get r = some ⟨[.ptr r 0, .nilS], tagOf 117 2, false⟩ := by
      rw [get_push_lt (by simp only [n_push]; omega), get_push_lt (by omega)]; exact g1
    have s1 : storeCellsA ((σ1.push ⟨[.int .u8 x.toNat], 1, false⟩).push ⟨intsOf [x], tagOf 5 1, true⟩) r 1 [.sl (σ1.n + 1) 0 1 1] = some (((σ1.push ⟨[.int .u8 x.toNat], 1, false⟩).push ⟨intsOf [x], tagOf 5 1, true⟩).set r ⟨[.ptr r 0, .sl (σ1.n + 1) 0 1 1], tagOf 117 2, false⟩) := by
      simp [storeCellsA, g3, allOne, AV.one, putN, overN]
    refine ⟨_, σ1.n + 1, k91 r _ _ x.toNat .nilS σ σ1 _ _ c1 l1 b1 a1 _ s1, ⟨?_, .ptr r 0, _, get_set_eq g3, .inr rfl, .inr ⟨by omega, rfl, ?_, by simp, true, ?_⟩⟩, by omega, ?_, ?_⟩
    · rw [n_set]; simp only [n_push]; omega
    · rw [n_set]; simp only [n_push]; omega
    · rw [get_set_ne (by omega)]; exact get_push_same
    · rw [n_set]; simp only [n_push]; omega
    · intro c hc hcq hcr
      rw [get_set_ne (fun e => hcq e.symm), get_push_lt (by simp only [n_push]; omega), get_push_lt (by omega), o1 c hcq]
  · have hrow : BRow σ1 r l := ⟨_, o, d5, .inr rfl, by omega⟩
    obtain ⟨σ3, a1, _, n3, ⟨o3, g3⟩, f3⟩ := bappend (x := x) ty32 ty5 hrow rfl hs
    have gq : σ3.get q = some ⟨[.ptr q 0, .sl r 0 l.length l.length], tagOf 117 2, false⟩ := (f3 q (fun e => d1 e.symm) (by omega)).trans g1
    have s1 : storeCellsA σ3 q 1 [.sl (σ1.n + 1) 0 (l.length + 1) (l.length + 1)] = some (σ3.set q ⟨[.ptr q 0, .sl (σ1.n + 1) 0 (l.length + 1) (l.length + 1)], tagOf 117 2, false⟩) := by
      simp [storeCellsA, gq, allOne, AV.one, putN, overN]
    refine ⟨_, σ1.n + 1, k91 q _ _ x.toNat _ σ σ1 _ _ c1 l1 b1 a1 _ s1, ⟨?_, .ptr q 0, _, get_set_eq gq, .inr rfl, .inr ⟨by omega, by simp, ?_, by simp, o3, ?_⟩⟩, by omega, ?_, ?_⟩
    · rw [n_set, n3]; omega
    · rw [n_set, n3]; omega
    · rw [get_set_ne (by omega)]; exact g3
    · rw [n_set, n3]; omega
    · intro c hc hcq hcr
      rw [get_set_ne (fun e => hcq e.symm), f3 c hcr (by omega), o1 c hcq]

def inR (n lo hi : Int) : Bool := decide (lo ≤ n) && decide (n ≤ hi)
theorem bs1 (σ : St) (x : Int) : buildSliceA TT σ 24 1 [(0, .int .i64 x)] = some (.sl σ.n 0 1 1, σ.push ⟨[.int .i64 x], 1, false⟩) := build_one ty24 ty2
theorem c69 (n lo hi : Int) (σ : St) : callI TT 69 [.int .i64 n, .int .i64 lo, .int .i64 hi] σ = some (.bool (inR n lo hi), σ) := by
  refine (FnV.mk (args' := [.int .i64 n, .int .i64 lo, .int .i64 hi]) fn69 rfl md69 ⟨⟨[], 0⟩, ?_⟩ (fun _ => rfl) rfl) σ _ rfl
  rw [fi69]
  by_cases h1 : lo ≤ n <;> simp [xI_seq, xI_region, xI_ret, regA, regOps, runOps, opStep, wantedA, opA, evo, evos, calleeA, lk, nif_eq, putE, paramsE, valS, val2, keepE, restrict, finA, resA, binA, binInt, ofConst, ofConst1, loadA, TK.isAgg, asVar, unA, builtinA, lenOpA, lenA, ileb_cast, ileb_eq, ieqb_dec, indexAddrA, inB_dec, evPairs, storeA, AV.cellsOf, pairsOf, xI_nil, binBool, gcE, evOpt, tagZ, inR, h1]

theorem v93 (l : List Int) (n : Nat) : FnV TT 93 [.lst n (ints l)] (.int .i64 n) := by
  refine FnV.mk fn93 rfl md93 ⟨⟨[], 0⟩, ?_⟩ (fun _ => rfl) rfl
  rw [fi93]
  simp [xI_seq, xI_region, xI_ret, regA, regOps, runOps, opStep, wantedA, opA, evo, evos, calleeA, lk, nif_eq, putE, paramsE, valS, val2, keepE, restrict, finA, resA, binA, binInt, ofConst, ofConst1, loadA, TK.isAgg, asVar, unA, builtinA, lenOpA, lenA, ileb_cast, ileb_eq, ieqb_dec, indexAddrA, inB_dec, evPairs, storeA, AV.cellsOf, pairsOf, xI_nil, binBool, gcE, evOpt, tagZ, ty2, ty24]
def allR (l : List Int) (lo hi : Int) : Bool := l.all fun n => inR n lo hi
theorem c134 (n lo hi : Int) (σ : St) (p q : Nat) (x y : Blk) (hp : σ.get p = some x) (hx : x.cells = [.int .i64 lo]) (hq : σ.get q = some y) (hy : y.cells = [.int .i64 hi]) : callI TT 134 [.int .i64 n, .ptr p 0, .ptr q 0] σ = some (.bool (!inR n lo hi), σ) := by
  rw [cI_0 fn134 rfl md134, fi134]
  simp [xI_seq, xI_region, xI_ret, regA, regOps, runOps, opStep, wantedA, opA, evo, evos, calleeA, lk, nif_eq, putE, paramsE, valS, val2, keepE, restrict, finA, resA, binA, binInt, ofConst, ofConst1, loadA, TK.isAgg, asVar, unA, builtinA, lenOpA, lenA, ileb_cast, ileb_eq, ieqb_dec, indexAddrA, inB_dec, evPairs, storeA, AV.cellsOf, pairsOf, xI_nil, binBool, gcE, evOpt, tagZ, xI_block, xI_loopH, xI_condM, xI_exitM, xI_skip, xI_blk, exitA, ty2, ty4, c69, cellsAt, hp, hx, hq, hy, getCells, takeN, dropN]

noncomputable def b163 : Code := Tryd.f163.body.getD .skip
noncomputable def B163_0 : Code := (bodyC (bodyC (sndC (fstC (sndC b163)))))
noncomputable def K163_0 : List It := .lp B163_0 :: .blk 0 :: .code (sndC (sndC b163)) :: []
theorem xl163_0 {fi : FI} {env : Env} {σ : St} : exI TT fi K163_0 env σ = exI TT fi (.code B163_0 :: K163_0) env σ := by unfold K163_0; exact xI_lp
noncomputable def R163_0_0 : List It := .code (sndC (sndC b163)) :: []
theorem eK163_0_0 : exitA 0 K163_0 = some R163_0_0 := rfl
theorem l163 (l : List Int) (len : Nat) (hlen : len = l.length) (hs : len < 3000000) (lo hi : Int) (σ : St) (p q : Nat) (x y : Blk) (hp : σ.get p = some x) (hx : x.cells = [.int .i64 lo]) (hq : σ.get q = some y) (hy : y.cells = [.int .i64 hi]) : ∀ (suf pre : List Int), l = pre ++ suf →
    ∃ r : Int, exI TT (FI.of Tryd.f163 (TT.an 163)) K163_0 [(0, .lst len (ints l)), (1, .fn 134 [] [.ptr p 0, .ptr q 0]), (7, .int .i64 len), (8, .int .i64 pre.length)] σ = some (.int .i64 r, σ) ∧ decide (0 ≤ r) = !allR suf lo hi := by
  intro suf
  induction suf with
  | nil =>
    intro pre hl
    refine ⟨-1, ?_, by simp [allR]⟩
    have hl : len = pre.length := by rw [hlen, hl]; simp
    subst hl
    rw [fi163]
    rw [xl163_0]
    simp only [B163_0, b163, Tryd.f163, Option.getD, fstC, sndC, bodyC, thnC, elsC]
    simp [xI_seq, xI_region, xI_ret, regA, regOps, runOps, opStep, wantedA, opA, evo, evos, calleeA, lk, nif_eq, putE, paramsE, valS, val2, keepE, restrict, finA, resA, binA, binInt, ofConst, ofConst1, loadA, TK.isAgg, asVar, unA, builtinA, lenOpA, lenA, ileb_cast, ileb_eq, ieqb_dec, indexAddrA, inB_dec, evPairs, storeA, AV.cellsOf, pairsOf, xI_nil, binBool, gcE, evOpt, tagZ, xI_block, xI_loopH, xI_condM, xI_exitM, xI_skip, xI_blk, exitA, ty2, ty3, ty24, eK163_0_0]
    simp only [R163_0_0, b163, Tryd.f163, Option.getD, fstC, sndC, bodyC, thnC, elsC]
    simp [xI_seq, xI_region, xI_ret, regA, regOps, runOps, opStep, wantedA, opA, evo, evos, calleeA, lk, nif_eq, putE, paramsE, valS, val2, keepE, restrict, finA, resA, binA, binInt, ofConst, ofConst1, loadA, TK.isAgg, asVar, unA, builtinA, lenOpA, lenA, ileb_cast, ileb_eq, ieqb_dec, indexAddrA, inB_dec, evPairs, storeA, AV.cellsOf, pairsOf, xI_nil, binBool, gcE, evOpt, tagZ, xI_block, xI_loopH, xI_condM, xI_exitM, xI_skip, xI_blk, exitA, ty2, ty3, ty24, eK163_0_0]
  | cons n suf ih =>
    intro pre hl
    have hll : len = pre.length + (suf.length + 1) := by rw [hlen, hl]; simp
    have hg : l[pre.length]? = some n := by simp [hl]
    obtain ⟨r, h1, h2⟩ := ih (pre ++ [n]) (by simp [hl])
    have hlt : ¬ len ≤ pre.length := by omega
    have hlt2 : pre.length < len := by omega
    have hw := wrapS (n := pre.length) (by omega)
    have hc := c134 n lo hi σ p q x y hp hx hq hy
    simp only [List.length_append, List.length_singleton] at h1
    cases hin : inR n lo hi with
    | true =>
      rw [hin] at hc
      refine ⟨r, ?_, by rw [h2]; simp [allR, hin]⟩
      rw [fi163] at h1 ⊢
      rw [xl163_0]
      simp only [B163_0, b163, Tryd.f163, Option.getD, fstC, sndC, bodyC, thnC, elsC]
      simp [xI_seq, xI_region, xI_ret, regA, regOps, runOps, opStep, wantedA, opA, evo, evos, calleeA, lk, nif_eq, putE, paramsE, valS, val2, keepE, restrict, finA, resA, binA, binInt, ofConst, ofConst1, loadA, TK.isAgg, asVar, unA, builtinA, lenOpA, lenA, ileb_cast, ileb_eq, ieqb_dec, indexAddrA, inB_dec, evPairs, storeA, AV.cellsOf, pairsOf, xI_nil, binBool, gcE, evOpt, tagZ, xI_block, xI_loopH, xI_condM, xI_exitM, xI_skip, xI_blk, exitA, ty2, ty3, ty24, eK163_0_0, hw, hlt, hlt2, lst_read hg, hc]
      simpa using h1
    | false =>
      rw [hin] at hc
      refine ⟨pre.length, ?_, by simp [allR, hin]⟩
      rw [fi163]
      rw [xl163_0]
      simp only [B163_0, b163, Tryd.f163, Option.getD, fstC, sndC, bodyC, thnC, elsC]
      simp [xI_seq, xI_region, xI_ret, regA, regOps, runOps, opStep, wantedA, opA, evo, evos, calleeA, lk, nif_eq, putE, paramsE, valS, val2, keepE, restrict, finA, resA, binA, binInt, ofConst, ofConst1, loadA, TK.isAgg, asVar, unA, builtinA, lenOpA, lenA, ileb_cast, ileb_eq, ieqb_dec, indexAddrA, inB_dec, evPairs, storeA, AV.cellsOf, pairsOf, xI_nil, binBool, gcE, evOpt, tagZ, xI_block, xI_loopH, xI_condM, xI_exitM, xI_skip, xI_blk, exitA, ty2, ty3, ty24, eK163_0_0, hw, hlt, hlt2, lst_read hg, hc]

theorem c133 (l : List Int) (len : Nat) (hlen : len = l.length) (hs : len < 3000000) (lo hi : Int) (σ : St) (p q : Nat) (x y : Blk) (hp : σ.get p = some x) (hx : x.cells = [.int .i64 lo]) (hq : σ.get q = some y) (hy : y.cells = [.int .i64 hi]) :
    callI TT 133 [.lst len (ints l), .fn 134 [] [.ptr p 0, .ptr q 0]] σ = some (.bool (!allR l lo hi), σ) := by
  obtain ⟨r, h1, h2⟩ := l163 l len hlen hs lo hi σ p q x y hp hx hq hy l [] rfl
  have hc : callI TT 163 [.lst len (ints l), .fn 134 [] [.ptr p 0, .ptr q 0]] σ = some (.int .i64 r, σ) := by
    rw [cI_0 fn163 rfl md163, ← h1, fi163]
    simp [xI_seq, xI_region, xI_ret, regA, regOps, runOps, opStep, wantedA, opA, evo, evos, calleeA, lk, nif_eq, putE, paramsE, valS, val2, keepE, restrict, finA, resA, binA, binInt, ofConst, ofConst1, loadA, TK.isAgg, asVar, unA, builtinA, lenOpA, lenA, ileb_cast, ileb_eq, ieqb_dec, indexAddrA, inB_dec, evPairs, storeA, AV.cellsOf, pairsOf, xI_nil, binBool, gcE, evOpt, tagZ, xI_block, xI_loopH, xI_condM, xI_exitM, xI_skip, xI_blk, exitA, ty2, ty3, ty24, eK163_0_0]
    rfl
  rw [cI_0 fn133 rfl md133, fi133]
  simp [xI_seq, xI_region, xI_ret, regA, regOps, runOps, opStep, wantedA, opA, evo, evos, calleeA, lk, nif_eq, putE, paramsE, valS, val2, keepE, restrict, finA, resA, binA, binInt, ofConst, ofConst1, loadA, TK.isAgg, asVar, unA, builtinA, lenOpA, lenA, ileb_cast, ileb_eq, ieqb_dec, indexAddrA, inB_dec, evPairs, storeA, AV.cellsOf, pairsOf, xI_nil, binBool, gcE, evOpt, tagZ, xI_block, xI_loopH, xI_condM, xI_exitM, xI_skip, xI_blk, exitA, ty3, hc, h2]

theorem v94 (l : List Int) (len : Nat) (hlen : len = l.length) (hs : len < 3000000) (lo hi : Int) : FnV TT 94 [.lst len (ints l), .int .i64 lo, .int .i64 hi] (.bool (allR l lo hi)) := by
  have h := c133 l len hlen hs lo hi (((⟨[], 0⟩ : St).push ⟨[.int .i64 lo], 1, false⟩).push ⟨[.int .i64 hi], 1, false⟩) 0 1 _ _ rfl rfl rfl rfl
  refine FnV.mk fn94 rfl md94 ⟨((⟨[], 0⟩ : St).push ⟨[.int .i64 lo], 1, false⟩).push ⟨[.int .i64 hi], 1, false⟩, ?_⟩ (fun _ => rfl) rfl
  rw [fi94]
  simp [xI_seq, xI_region, xI_ret, regA, regOps, runOps, opStep, wantedA, opA, evo, evos, calleeA, lk, nif_eq, putE, paramsE, valS, val2, keepE, restrict, finA, resA, binA, binInt, ofConst, ofConst1, loadA, TK.isAgg, asVar, unA, builtinA, lenOpA, lenA, ileb_cast, ileb_eq, ieqb_dec, indexAddrA, inB_dec, evPairs, storeA, AV.cellsOf, pairsOf, xI_nil, binBool, gcE, evOpt, tagZ, xI_block, xI_loopH, xI_condM, xI_exitM, xI_skip, xI_blk, exitA, ty2, ty4, h, allOne, AV.one, n_push]

theorem inR_iff {n lo hi : Int} : inR n lo hi = true ↔ lo ≤ n ∧ n ≤ hi := by simp [inR]
open Go.Wd
noncomputable def b112 : Code := Tryd.f112.body.getD .skip
noncomputable def B112_0 : Code := (bodyC (bodyC (fstC (sndC (sndC b112)))))
noncomputable def K112_0 : List It := .lp B112_0 :: .blk 0 :: .code (sndC (sndC (sndC b112))) :: []
theorem xl112_0 {fi : FI} {env : Env} {σ : St} : exI TT fi K112_0 env σ = exI TT fi (.code B112_0 :: K112_0) env σ := by unfold K112_0; exact xI_lp
noncomputable def R112_0_0 : List It := .code (sndC (sndC (sndC b112))) :: []
theorem eK112_0_0 : exitA 0 K112_0 = some R112_0_0 := rfl
theorem l112 (σ : St) : ∀ (k n out : Nat), n < 2 ^ k → k ≤ 63 → out < 2 →
    exI TT (FI.of Tryd.f112 (TT.an 112)) K112_0 [(0, .int .i64 n), (3, .int .i64 out)] σ = some (.int .i64 (xorN out (parF k n) : Nat), σ) := by
  intro k
  induction k with
  | zero =>
    intro n out hn hk ho
    obtain rfl : n = 0 := by simpa using hn
    have hx : xorN out (parF 0 0) = out := by simp [xorN, parF]
    rw [fi112]
    rw [xl112_0]
    simp only [B112_0, b112, Tryd.f112, Option.getD, fstC, sndC, bodyC, thnC, elsC]
    simp [xI_seq, xI_region, xI_ret, regA, regOps, runOps, opStep, wantedA, opA, evo, evos, calleeA, lk, nif_eq, putE, paramsE, valS, val2, keepE, restrict, finA, resA, binA, binInt, ofConst, ofConst1, loadA, TK.isAgg, asVar, unA, builtinA, lenOpA, lenA, ileb_cast, ileb_eq, ieqb_dec, indexAddrA, inB_dec, evPairs, storeA, AV.cellsOf, pairsOf, xI_nil, binBool, gcE, evOpt, tagZ, xI_block, xI_loopH, xI_condM, xI_exitM, xI_skip, xI_blk, exitA, ty2, eK112_0_0]
    simp only [R112_0_0, b112, Tryd.f112, Option.getD, fstC, sndC, bodyC, thnC, elsC]
    simp [xI_seq, xI_region, xI_ret, regA, regOps, runOps, opStep, wantedA, opA, evo, evos, calleeA, lk, nif_eq, putE, paramsE, valS, val2, keepE, restrict, finA, resA, binA, binInt, ofConst, ofConst1, loadA, TK.isAgg, asVar, unA, builtinA, lenOpA, lenA, ileb_cast, ileb_eq, ieqb_dec, indexAddrA, inB_dec, evPairs, storeA, AV.cellsOf, pairsOf, xI_nil, binBool, gcE, evOpt, tagZ, xI_block, xI_loopH, xI_condM, xI_exitM, xI_skip, xI_blk, exitA, ty2, eK112_0_0, hx]
  | succ k ih =>
    intro n out hn hk ho
    have h62 : 2 ^ (k + 1) ≤ 2 ^ 63 := Nat.pow_le_pow_right (by decide) hk
    have hn2 : n ≤ 9223372036854775807 := by omega
    by_cases h0 : n = 0
    · subst h0
      have hx : xorN out (parF (k + 1) 0) = out := by rw [parF_zero]; simp [xorN]
      rw [fi112]
      rw [xl112_0]
      simp only [B112_0, b112, Tryd.f112, Option.getD, fstC, sndC, bodyC, thnC, elsC]
      simp [xI_seq, xI_region, xI_ret, regA, regOps, runOps, opStep, wantedA, opA, evo, evos, calleeA, lk, nif_eq, putE, paramsE, valS, val2, keepE, restrict, finA, resA, binA, binInt, ofConst, ofConst1, loadA, TK.isAgg, asVar, unA, builtinA, lenOpA, lenA, ileb_cast, ileb_eq, ieqb_dec, indexAddrA, inB_dec, evPairs, storeA, AV.cellsOf, pairsOf, xI_nil, binBool, gcE, evOpt, tagZ, xI_block, xI_loopH, xI_condM, xI_exitM, xI_skip, xI_blk, exitA, ty2, eK112_0_0]
      simp only [R112_0_0, b112, Tryd.f112, Option.getD, fstC, sndC, bodyC, thnC, elsC]
      simp [xI_seq, xI_region, xI_ret, regA, regOps, runOps, opStep, wantedA, opA, evo, evos, calleeA, lk, nif_eq, putE, paramsE, valS, val2, keepE, restrict, finA, resA, binA, binInt, ofConst, ofConst1, loadA, TK.isAgg, asVar, unA, builtinA, lenOpA, lenA, ileb_cast, ileb_eq, ieqb_dec, indexAddrA, inB_dec, evPairs, storeA, AV.cellsOf, pairsOf, xI_nil, binBool, gcE, evOpt, tagZ, xI_block, xI_loopH, xI_condM, xI_exitM, xI_skip, xI_blk, exitA, ty2, eK112_0_0, hx]
    · have hm : modN n 2 < 2 := Nat.mod_lt _ (by decide)
      have hxl : xorN out (modN n 2) < 2 := Nat.xor_lt_two_pow (n := 1) ho hm
      have h1 := ih (shrN n 1) (xorN out (modN n 2)) (by show n / 2 ^ 1 < 2 ^ k; omega) (by omega) hxl
      have hx : xorN (xorN out (modN n 2)) (parF k (shrN n 1)) = xorN out (parF (k + 1) n) := by
        show (out ^^^ (n % 2)) ^^^ parF k (n / 2 ^ 1) = out ^^^ ((n % 2) ^^^ parF k (n / 2))
        rw [Nat.pow_one, Nat.xor_assoc]
      rw [hx] at h1
      have a1 := n_and1 hn2
      have a2 := n_xor (a := out) (b := modN n 2) (by omega) (by omega)
      have a3 : shrA (n : Int) (min 1 IntKind.i64.bits) = ((shrN n 1 : Nat) : Int) := rfl
      have hp : 0 < n := by omega
      rw [fi112] at h1 ⊢
      rw [xl112_0]
      simp only [B112_0, b112, Tryd.f112, Option.getD, fstC, sndC, bodyC, thnC, elsC]
      simp [xI_seq, xI_region, xI_ret, regA, regOps, runOps, opStep, wantedA, opA, evo, evos, calleeA, lk, nif_eq, putE, paramsE, valS, val2, keepE, restrict, finA, resA, binA, binInt, ofConst, ofConst1, loadA, TK.isAgg, asVar, unA, builtinA, lenOpA, lenA, ileb_cast, ileb_eq, ieqb_dec, indexAddrA, inB_dec, evPairs, storeA, AV.cellsOf, pairsOf, xI_nil, binBool, gcE, evOpt, tagZ, xI_block, xI_loopH, xI_condM, xI_exitM, xI_skip, xI_blk, exitA, ty2, eK112_0_0, a1, a2, a3, hp, h0]
      simpa using h1
theorem v112 (n : Nat) (hn : n < 2 ^ 63) : FnV TT 112 [.int .i64 n] (.int .i64 (par n : Nat)) := by
  refine FnV.mk fn112 rfl md112 ⟨⟨[], 0⟩, ?_⟩ (fun _ => rfl) rfl
  have h := l112 ⟨[], 0⟩ 63 n 0 hn (by decide) (by decide)
  rw [show xorN 0 (parF 63 n) = par n by rw [par_eq hn (by decide)]; simp [xorN]] at h
  rw [← h, fi112]
  simp [xI_seq, xI_region, xI_ret, regA, regOps, runOps, opStep, wantedA, opA, evo, evos, calleeA, lk, nif_eq, putE, paramsE, valS, val2, keepE, restrict, finA, resA, binA, binInt, ofConst, ofConst1, loadA, TK.isAgg, asVar, unA, builtinA, lenOpA, lenA, ileb_cast, ileb_eq, ieqb_dec, indexAddrA, inB_dec, evPairs, storeA, AV.cellsOf, pairsOf, xI_nil, binBool, gcE, evOpt, tagZ, xI_block, xI_loopH, xI_condM, xI_exitM, xI_skip, xI_blk, exitA, ty2, eK112_0_0]
  rfl

set_option maxHeartbeats 1000000 in
theorem v161 (x : Nat) (hx : x < 65536) : FnV TT 161 [.int .u64 x] (.int .i64 (pc x : Nat)) := by
  refine FnV.mk fn161 rfl md161 ⟨⟨[], 0⟩, ?_⟩ (fun _ => rfl) rfl
  obtain ⟨a, ha⟩ : ∃ a, a = addN (andN (shrN x 1) 6148914691236517205) (andN x 6148914691236517205) := ⟨_, rfl⟩
  obtain ⟨b, hb⟩ : ∃ b, b = addN (andN (shrN a 2) 3689348814741910323) (andN a 3689348814741910323) := ⟨_, rfl⟩
  obtain ⟨c, hc⟩ : ∃ c, c = andN (addN (shrN b 4) b) 1085102592571150095 := ⟨_, rfl⟩
  obtain ⟨d, hd⟩ : ∃ d, d = addN c (shrN c 8) := ⟨_, rfl⟩
  obtain ⟨e, he⟩ : ∃ e, e = addN d (shrN d 16) := ⟨_, rfl⟩
  obtain ⟨k, hk⟩ : ∃ k, k = addN e (shrN e 32) := ⟨_, rfl⟩
  have hpc : pc x = andN k 127 := by
    subst hk he hd hc hb ha; rfl
  have q1 : andN (shrN x 1) 6148914691236517205 ≤ x / 2 ^ 1 := Nat.and_le_left
  have q2 : andN x 6148914691236517205 ≤ x := Nat.and_le_left
  have ea : a = andN (shrN x 1) 6148914691236517205 + andN x 6148914691236517205 := ha
  have q3 : andN (shrN a 2) 3689348814741910323 ≤ a / 2 ^ 2 := Nat.and_le_left
  have q4 : andN a 3689348814741910323 ≤ a := Nat.and_le_left
  have eb : b = andN (shrN a 2) 3689348814741910323 + andN a 3689348814741910323 := hb
  have q5 : c ≤ addN (shrN b 4) b := by rw [hc]; exact Nat.and_le_left
  have q5' : addN (shrN b 4) b = b / 2 ^ 4 + b := rfl
  have q6 : d = c + c / 2 ^ 8 := hd
  have q7 : e = d + d / 2 ^ 16 := he
  have q8 : k = e + e / 2 ^ 32 := hk
  have a1 : shrA (x : Int) (min 1 IntKind.u64.bits) = ((shrN x 1 : Nat) : Int) := rfl
  have a2 : bitsA .and .u64 ((shrN x 1 : Nat) : Int) 6148914691236517205 = some (.int .u64 ((andN (shrN x 1) 6148914691236517205 : Nat) : Int)) := w_and .u64 (a := shrN x 1) (b := 6148914691236517205) (by show x / 2 ^ 1 ≤ _; simp only [topOf]; omega) (by decide)
  have a3 : bitsA .and .u64 (x : Int) 6148914691236517205 = some (.int .u64 ((andN x 6148914691236517205 : Nat) : Int)) := w_and .u64 (a := x) (b := 6148914691236517205) (by simp only [topOf]; omega) (by decide)
  have a4 : wrapA .u64 (((andN (shrN x 1) 6148914691236517205 : Nat) : Int) + ((andN x 6148914691236517205 : Nat) : Int)) = (a : Int) := by
    rw [ea, ← Int.natCast_add]; exact n_wrapu (by omega)
  have b1 : shrA (a : Int) (min 2 IntKind.u64.bits) = ((shrN a 2 : Nat) : Int) := rfl
  have b2 : bitsA .and .u64 ((shrN a 2 : Nat) : Int) 3689348814741910323 = some (.int .u64 ((andN (shrN a 2) 3689348814741910323 : Nat) : Int)) := w_and .u64 (a := shrN a 2) (b := 3689348814741910323) (by show a / 2 ^ 2 ≤ _; simp only [topOf]; omega) (by decide)
  have b3 : bitsA .and .u64 (a : Int) 3689348814741910323 = some (.int .u64 ((andN a 3689348814741910323 : Nat) : Int)) := w_and .u64 (a := a) (b := 3689348814741910323) (by simp only [topOf]; omega) (by decide)
  have b4 : wrapA .u64 (((andN (shrN a 2) 3689348814741910323 : Nat) : Int) + ((andN a 3689348814741910323 : Nat) : Int)) = (b : Int) := by
    rw [eb, ← Int.natCast_add]; exact n_wrapu (by omega)
  have c1 : shrA (b : Int) (min 4 IntKind.u64.bits) = ((shrN b 4 : Nat) : Int) := rfl
  have c2 : wrapA .u64 (((shrN b 4 : Nat) : Int) + (b : Int)) = ((addN (shrN b 4) b : Nat) : Int) := by
    rw [← Int.natCast_add]; exact n_wrapu (by show b / 2 ^ 4 + b ≤ _; omega)
  have c3 : bitsA .and .u64 ((addN (shrN b 4) b : Nat) : Int) 1085102592571150095 = some (.int .u64 (c : Int)) := by
    rw [hc]; exact w_and .u64 (a := addN (shrN b 4) b) (b := 1085102592571150095) (by rw [q5']; simp only [topOf]; omega) (by decide)
  have d1 : shrA (c : Int) (min 8 IntKind.u64.bits) = ((shrN c 8 : Nat) : Int) := rfl
  have d2 : wrapA .u64 ((c : Int) + ((shrN c 8 : Nat) : Int)) = (d : Int) := by
    rw [← Int.natCast_add, hd]; exact n_wrapu (by show c + c / 2 ^ 8 ≤ _; omega)
  have e1 : shrA (d : Int) (min 16 IntKind.u64.bits) = ((shrN d 16 : Nat) : Int) := rfl
  have e2 : wrapA .u64 ((d : Int) + ((shrN d 16 : Nat) : Int)) = (e : Int) := by
    rw [← Int.natCast_add, he]; exact n_wrapu (by show d + d / 2 ^ 16 ≤ _; omega)
  have k1 : shrA (e : Int) (min 32 IntKind.u64.bits) = ((shrN e 32 : Nat) : Int) := rfl
  have k2 : wrapA .u64 ((e : Int) + ((shrN e 32 : Nat) : Int)) = (k : Int) := by
    rw [← Int.natCast_add, hk]; exact n_wrapu (by show e + e / 2 ^ 32 ≤ _; omega)
  have k3 : wrapA .i64 (k : Int) = (k : Int) := n_wrap (by omega)
  have k4 : bitsA .and .i64 (k : Int) 127 = some (.int .i64 ((andN k 127 : Nat) : Int)) := w_and .i64 (a := k) (b := 127) (by simp only [topOf]; omega) (by decide)
  rw [hpc, fi161]
  clear ha hb hc hd he hk ea eb q5' q6 q7 q8
  simp [xI_seq, xI_region, xI_ret, regA, regOps, runOps, opStep, wantedA, opA, evo, evos, calleeA, lk, nif_eq, putE, paramsE, valS, val2, keepE, restrict, finA, resA, binA, binInt, ofConst, ofConst1, loadA, TK.isAgg, asVar, unA, builtinA, lenOpA, lenA, ileb_cast, ileb_eq, ieqb_dec, indexAddrA, inB_dec, evPairs, storeA, AV.cellsOf, pairsOf, xI_nil, binBool, gcE, evOpt, tagZ, xI_block, xI_loopH, xI_condM, xI_exitM, xI_skip, xI_blk, exitA, ty3, ty141, a1, a2, a3, a4, b1, b2, b3, b4, c1, c2, c3, d1, d2, e1, e2, k1, k2, k3, k4, convA]

theorem v126 (x : Nat) (hx : x < 65536) : FnV TT 126 [.int .i64 x] (.int .i64 (par x : Nat)) := by
  refine FnV.mk fn126 rfl md126 ⟨⟨[], 0⟩, ?_⟩ (fun _ => rfl) rfl
  have h1 : wrapA .u64 (x : Int) = (x : Int) := n_wrapu (by omega)
  have h2 : ∀ σ, callI TT 161 [.int .u64 x] σ = some (.int .i64 (pc x : Nat), σ) := fun σ => v161 x hx σ _ rfl
  have hb : pc x ≤ 127 := Nat.and_le_right
  have h3 : bitsA .and .i64 ((pc x : Nat) : Int) 1 = some (.int .i64 ((par x : Nat) : Int)) := by
    rw [← pc_par hx]; exact w_and .i64 (a := pc x) (b := 1) (by simp only [topOf]; omega) (by decide)
  rw [fi126]
  simp [xI_seq, xI_region, xI_ret, regA, regOps, runOps, opStep, wantedA, opA, evo, evos, calleeA, lk, nif_eq, putE, paramsE, valS, val2, keepE, restrict, finA, resA, binA, binInt, ofConst, ofConst1, loadA, TK.isAgg, asVar, unA, builtinA, lenOpA, lenA, ileb_cast, ileb_eq, ieqb_dec, indexAddrA, inB_dec, evPairs, storeA, AV.cellsOf, pairsOf, xI_nil, binBool, gcE, evOpt, tagZ, xI_block, xI_loopH, xI_condM, xI_exitM, xI_skip, xI_blk, exitA, ty2, ty3, ty141, h1, h2, h3, convA]
theorem c126 (x : Nat) (hx : x < 65536) (σ : St) : callI TT 126 [.int .i64 x] σ = some (.int .i64 (par x : Nat), σ) := v126 x hx σ _ rfl

open Go.Wd
theorem blt_dec (a b : Nat) : Nat.blt a b = decide (a < b) := by
  by_cases h : a < b
  · rw [decide_eq_true h]; unfold Nat.blt; rw [Nat.ble_eq]; exact h
  · rw [decide_eq_false h]
    cases hx : Nat.blt a b with
    | false => rfl
    | true => exact (h (Nat.le_of_ble_eq_true hx)).elim
theorem eqvs_ints : ∀ (l : List Int), eqvs (ints l) (ints l) = true
  | [] => rfl
  | x :: l => by rw [ints_cons]; simp [eqvs, AV.eqv, eqvs_ints l]
theorem pw_16 {k : Nat} (h : k ≤ 16) : pw k ≤ 65536 := Nat.pow_le_pow_right (by decide) h
theorem pw_pos (k : Nat) : 1 ≤ pw k := Nat.one_le_two_pow
theorem pw_dec {k : Nat} (h : k ≤ 16) : wrapA .i64 (((pw k : Nat) : Int) - 1) = ((pw k : Nat) : Int) - 1 := by
  have := pw_16 h
  exact wrapA_id (by omega) (by omega)

def vreg (w t : Int) : Bool := inR w 0 16 && inR t 0 (((pw w.toNat : Nat) : Int) - 1)
def rst (w t s : Int) : Bool := vreg w t && inR s 0 (((pw w.toNat : Nat) : Int) - 1)
theorem reg_nat {w t : Int} (h : vreg w t = true) : ∃ k m : Nat, w = k ∧ t = m ∧ k ≤ 16 ∧ m < 2 ^ k ∧ m < 65536 := by
  simp only [Bool.and_eq_true, vreg] at h
  have h1 := inR_iff.1 h.1
  have h2 := inR_iff.1 h.2
  have h3 := pw_16 (k := w.toNat) (by omega)
  have h4 : pw w.toNat = 2 ^ w.toNat := rfl
  exact ⟨w.toNat, t.toNat, by omega, by omega, by omega, by omega, by omega⟩
theorem rst_nat {w t s : Int} (h : rst w t s = true) : ∃ k m n : Nat, w = k ∧ t = m ∧ s = n ∧ k ≤ 16 ∧ m < 2 ^ k ∧ n < 2 ^ k ∧ m < 65536 ∧ n < 65536 := by
  simp only [rst, Bool.and_eq_true] at h
  obtain ⟨k, m, rfl, rfl, h1, h2, h3⟩ := reg_nat h.1
  have h4 := inR_iff.1 h.2
  have h5 := pw_16 h1
  have h6 : pw k = 2 ^ k := rfl
  simp only [Int.toNat_natCast] at h4
  exact ⟨k, m, s.toNat, rfl, rfl, by omega, h1, h2, by omega, h3, by omega⟩
theorem vreg_of {k m : Nat} (h : k ≤ 16) (hm : m < 2 ^ k) : vreg k m = true := by
  have h6 : pw k = 2 ^ k := rfl
  simp only [vreg, Bool.and_eq_true]
  exact ⟨inR_iff.2 (by omega), inR_iff.2 (by rw [Int.toNat_natCast]; omega)⟩
theorem rst_of {k m n : Nat} (h : k ≤ 16) (hm : m < 2 ^ k) (hn : n < 2 ^ k) : rst k m n = true := by
  have h6 : pw k = 2 ^ k := rfl
  simp only [rst, Bool.and_eq_true]
  exact ⟨vreg_of h hm, inR_iff.2 (by rw [Int.toNat_natCast]; omega)⟩

theorem v62 (w t : Int) : FnV TT 62 [.agg [.int .i64 w, .int .i64 t]] (.bool (vreg w t)) := by
  refine FnV.mk fn62 rfl md62 ?_ (fun _ => rfl) rfl
  obtain ⟨σ, hσ⟩ : ∃ σ, (⟨[], 0⟩ : St).push ⟨[.int .i64 w, .int .i64 t], 2, false⟩ = σ := ⟨_, rfl⟩
  have hcp : cellsAt σ (.ptr 0 0) 1 = some [.int .i64 w] := by subst hσ; rfl
  have hcp1 : cellsAt σ (.ptr 0 1) 1 = some [.int .i64 t] := by subst hσ; rfl
  have hi := c69 w 0 16 σ
  rw [fi62]
  cases h1 : inR w 0 16 with
  | false =>
    rw [h1] at hi
    simp [xI_seq, xI_region, xI_ret, regA, regOps, runOps, opStep, wantedA, opA, evo, evos, calleeA, lk, nif_eq, putE, paramsE, valS, val2, keepE, restrict, finA, resA, binA, binInt, ofConst, ofConst1, loadA, TK.isAgg, asVar, unA, builtinA, lenOpA, lenA, ileb_cast, ileb_eq, ieqb_dec, indexAddrA, inB_dec, evPairs, storeA, AV.cellsOf, pairsOf, xI_nil, binBool, gcE, evOpt, tagZ, xI_block, xI_loopH, xI_condM, xI_exitM, xI_skip, xI_blk, exitA, ty2, ty27, runTr, pairsOk, pairOk, lstAt, lastOf, sameVal, AV.eqv, eqvs, eqvs_ints, regOps, blt_dec, cond_true, cond_false, fieldAddrA, allOne, AV.one, n_push, ty2, ty27, hσ, hcp, hcp1, hi]
    simp [vreg, h1]
  | true =>
    rw [h1] at hi
    have h1' := inR_iff.1 h1
    obtain ⟨k, rfl⟩ : ∃ k : Nat, w = k := ⟨w.toNat, by omega⟩
    have e2 := sh_1 (b := k) (by omega)
    have e3 := pw_dec (k := k) (by omega)
    have hc := c69 t 0 (((pw k : Nat) : Int) - 1) σ
    simp [xI_seq, xI_region, xI_ret, regA, regOps, runOps, opStep, wantedA, opA, evo, evos, calleeA, lk, nif_eq, putE, paramsE, valS, val2, keepE, restrict, finA, resA, binA, binInt, ofConst, ofConst1, loadA, TK.isAgg, asVar, unA, builtinA, lenOpA, lenA, ileb_cast, ileb_eq, ieqb_dec, indexAddrA, inB_dec, evPairs, storeA, AV.cellsOf, pairsOf, xI_nil, binBool, gcE, evOpt, tagZ, xI_block, xI_loopH, xI_condM, xI_exitM, xI_skip, xI_blk, exitA, ty2, ty27, runTr, pairsOk, pairOk, lstAt, lastOf, sameVal, AV.eqv, eqvs, eqvs_ints, regOps, blt_dec, cond_true, cond_false, fieldAddrA, allOne, AV.one, n_push, ty2, ty27, hσ, hcp, hcp1, hi, hc, e2, e3]
    simp [vreg, h1]
/-- The state after a step of a register, and the bit that it outputs. -/
def rnext (w t n : Nat) : Nat := if w = 0 then 0 else orN (shrN n 1) (shlN (par (andN t n)) (w - 1))
def rbit (w n : Nat) : Nat := if w = 0 then 0 else modN n 2
theorem rbit_lt (w n : Nat) : rbit w n < 2 := by
  unfold rbit
  split
  · decide
  · exact Nat.mod_lt _ (by decide)
theorem rnext_lt {w t n : Nat} (hn : n < 2 ^ w) : rnext w t n < 2 ^ w := by
  unfold rnext
  split
  · exact Nat.two_pow_pos _
  · rename_i h
    obtain ⟨k, rfl⟩ : ∃ k, w = k + 1 := ⟨w - 1, by omega⟩
    have h1 := par_lt (andN t n)
    have h2 := Nat.two_pow_pos k
    have h3 : par (andN t n) * 2 ^ k ≤ 1 * 2 ^ k := Nat.mul_le_mul_right _ (by omega)
    have h4 : 2 ^ (k + 1) = 2 * 2 ^ k := by rw [Nat.pow_succ]; omega
    refine Nat.or_lt_two_pow ?_ ?_
    · show n / 2 ^ 1 < _; omega
    · show par (andN t n) * 2 ^ (k + 1 - 1) < _
      rw [Nat.add_sub_cancel]; omega
/-- The first bits that are output, and the state behind them. -/
def outR (w t : Nat) : Nat → Nat → List UInt8
  | 0, _ => []
  | m + 1, n => bb (rbit w n) :: outR w t m (rnext w t n)
def endR (w t : Nat) : Nat → Nat → Nat
  | 0, n => n
  | m + 1, n => endR w t m (rnext w t n)
theorem outR_length (w t : Nat) : ∀ m n, (outR w t m n).length = m
  | 0, _ => rfl
  | m + 1, n => by simp [outR, outR_length w t m]

theorem v114 (w t n : Nat) (hw : w ≤ 16) (ht : t < 65536) (hn : n < 65536) : FnV TT 114 [.agg [.int .i64 w, .int .i64 t], .int .i64 n] (.tup [.int .i64 (rnext w t n : Nat), .int .i64 (rbit w n : Nat)]) := by
  refine FnV.mk fn114 rfl md114 ⟨(⟨[], 0⟩ : St).push ⟨[.int .i64 w, .int .i64 t], 2, false⟩, ?_⟩ (fun _ => rfl) rfl
  obtain ⟨σ, hσ⟩ : ∃ σ, (⟨[], 0⟩ : St).push ⟨[.int .i64 w, .int .i64 t], 2, false⟩ = σ := ⟨_, rfl⟩
  have hcp : cellsAt σ (.ptr 0 0) 1 = some [.int .i64 w] := by subst hσ; rfl
  have hcp1 : cellsAt σ (.ptr 0 1) 1 = some [.int .i64 t] := by subst hσ; rfl
  rw [fi114, hσ]
  by_cases hw0 : w = 0
  · subst hw0
    simp only [show ((0 : Nat) : Int) = 0 from rfl] at hσ hcp ⊢
    simp [xI_seq, xI_region, xI_ret, regA, regOps, runOps, opStep, wantedA, opA, evo, evos, calleeA, lk, nif_eq, putE, paramsE, valS, val2, keepE, restrict, finA, resA, binA, binInt, ofConst, ofConst1, loadA, TK.isAgg, asVar, unA, builtinA, lenOpA, lenA, ileb_cast, ileb_eq, ieqb_dec, indexAddrA, inB_dec, evPairs, storeA, AV.cellsOf, pairsOf, xI_nil, binBool, gcE, evOpt, tagZ, xI_block, xI_loopH, xI_condM, xI_exitM, xI_skip, xI_blk, exitA, ty2, ty27, runTr, pairsOk, pairOk, lstAt, lastOf, sameVal, AV.eqv, eqvs, eqvs_ints, regOps, blt_dec, cond_true, cond_false, fieldAddrA, allOne, AV.one, n_push, ty2, ty27, hσ, hcp, hcp1]
    simp [rnext, rbit]
  have hw1 : ¬ (w : Int) = 0 := by omega
  have a1 : shrA (n : Int) (min 1 IntKind.i64.bits) = ((shrN n 1 : Nat) : Int) := rfl
  have a2 : bitsA .and .i64 (t : Int) (n : Int) = some (.int .i64 ((andN t n : Nat) : Int)) := n_and (by omega) (by omega)
  have hle : andN t n ≤ t := Nat.and_le_left
  have hpl := par_lt (andN t n)
  have h16 : 2 ^ (w - 1) ≤ 2 ^ 15 := Nat.pow_le_pow_right (by decide) (by omega)
  have a4 : wrapA .i64 ((w : Int) - 1) = ((subN w 1 : Nat) : Int) := by
    rw [wrapA_id (by omega) (by omega)]; show (w : Int) - 1 = ((w - 1 : Nat) : Int); omega
  have hm : par (andN t n) * 2 ^ (w - 1) ≤ 1 * 2 ^ (w - 1) := Nat.mul_le_mul_right _ (by omega)
  have a5 : wrapA .i64 (shlA ((par (andN t n) : Nat) : Int) (min (subN w 1) IntKind.i64.bits)) = ((shlN (par (andN t n)) (subN w 1) : Nat) : Int) := sh_l (by show w - 1 ≤ 64; omega) (by show par (andN t n) * 2 ^ (w - 1) ≤ _; omega)
  have a6 : bitsA .or .i64 ((shrN n 1 : Nat) : Int) ((shlN (par (andN t n)) (subN w 1) : Nat) : Int) = some (.int .i64 ((orN (shrN n 1) (shlN (par (andN t n)) (subN w 1)) : Nat) : Int)) := n_or (by show n / 2 ^ 1 ≤ _; omega) (by show par (andN t n) * 2 ^ (w - 1) ≤ _; omega)
  have a7 := n_and1 (a := n) (by omega)
  have a8 : wrapA .u64 ((subN w 1 : Nat) : Int) = ((subN w 1 : Nat) : Int) := n_wrapu (by show w - 1 ≤ _; omega)
  have a3 := c126 (andN t n) (by omega) σ
  have e1 : rnext w t n = orN (shrN n 1) (shlN (par (andN t n)) (subN w 1)) := by rw [rnext, if_neg hw0]; rfl
  have e2 : rbit w n = modN n 2 := by rw [rbit, if_neg hw0]
  rw [e1, e2]
  simp [xI_seq, xI_region, xI_ret, regA, regOps, runOps, opStep, wantedA, opA, evo, evos, calleeA, lk, nif_eq, putE, paramsE, valS, val2, keepE, restrict, finA, resA, binA, binInt, ofConst, ofConst1, loadA, TK.isAgg, asVar, unA, builtinA, lenOpA, lenA, ileb_cast, ileb_eq, ieqb_dec, indexAddrA, inB_dec, evPairs, storeA, AV.cellsOf, pairsOf, xI_nil, binBool, gcE, evOpt, tagZ, xI_block, xI_loopH, xI_condM, xI_exitM, xI_skip, xI_blk, exitA, ty2, ty27, runTr, pairsOk, pairOk, lstAt, lastOf, sameVal, AV.eqv, eqvs, eqvs_ints, regOps, blt_dec, cond_true, cond_false, fieldAddrA, allOne, AV.one, n_push, ty2, ty27, hσ, hcp, hcp1, hw1, hw0, a1, a2, a3, a4, a5, a6, a7]
theorem c114 (w t n : Nat) (hw : w ≤ 16) (ht : t < 65536) (hn : n < 65536) (σ : St) : callI TT 114 [.agg [.int .i64 w, .int .i64 t], .int .i64 n] σ = some (.tup [.int .i64 (rnext w t n : Nat), .int .i64 (rbit w n : Nat)], σ) := v114 w t n hw ht hn σ _ rfl

open Go.Wd
theorem c115 (q : Nat) (hq : q < 2) (σ : St) : callI TT 115 [.int .i64 q] σ = some (.int .u8 ((bb q).toNat : Nat), σ) := by
  refine (FnV.mk (args' := [.int .i64 q]) fn115 rfl md115 ⟨⟨[], 0⟩, ?_⟩ (fun _ => rfl) rfl) σ _ rfl
  have h1 := bb_conv hq ⟨[], 0⟩
  have h2 := bb_wrap hq
  rw [fi115]
  simp [xI_seq, xI_region, xI_ret, regA, regOps, runOps, opStep, wantedA, opA, evo, evos, calleeA, lk, nif_eq, putE, paramsE, valS, val2, keepE, restrict, finA, resA, binA, binInt, ofConst, ofConst1, loadA, TK.isAgg, asVar, unA, builtinA, lenOpA, lenA, ileb_cast, ileb_eq, ieqb_dec, indexAddrA, inB_dec, evPairs, storeA, AV.cellsOf, pairsOf, xI_nil, binBool, gcE, evOpt, tagZ, xI_block, xI_loopH, xI_condM, xI_exitM, xI_skip, xI_blk, exitA, ty2, ty5, h2, h1]

noncomputable def b64 : Code := Tryd.f64.body.getD .skip
noncomputable def B64_0 : Code := (bodyC (bodyC (sndC (fstC (sndC (sndC b64))))))
noncomputable def K64_0 : List It := .lp B64_0 :: .blk 0 :: .code (sndC (sndC (sndC b64))) :: []
theorem xl64_0 {fi : FI} {env : Env} {σ : St} : exI TT fi K64_0 env σ = exI TT fi (.code B64_0 :: K64_0) env σ := by unfold K64_0; exact xI_lp
noncomputable def R64_0_0 : List It := .code (sndC (sndC (sndC b64))) :: []
theorem eK64_0_0 : exitA 0 K64_0 = some R64_0_0 := rfl
theorem l64 (w t c : Nat) (hw : w ≤ 16) (ht : t < 65536) (hc : c ≤ 1048576) : ∀ (m n : Nat) (l : List UInt8) (σ : St) (r : Nat), l.length + m = c → n < 2 ^ w → σ.get 0 = some ⟨[.int .i64 w, .int .i64 t], 2, false⟩ → Bld σ 1 r l → r ≠ 0 →
    ∃ σ', exI TT (FI.of Tryd.f64 (TT.an 64)) K64_0 [(1, .int .i64 n), (3, .ptr 0 0), (8, .ptr 1 0), (11, .int .i64 c), (12, .int .i64 l.length)] σ = some (.tup [.str (l ++ outR w t m n), .int .i64 (endR w t m n : Nat)], σ') := by
  have h16 : 2 ^ w ≤ 2 ^ 16 := Nat.pow_le_pow_right (by decide) hw
  intro m
  induction m with
  | zero =>
    intro n l σ r hl hn hp hb hr
    obtain rfl : c = l.length := by omega
    obtain ⟨σ1, hs, _, _⟩ := c92 hb (by omega)
    refine ⟨σ1, ?_⟩
    rw [fi64]
    rw [xl64_0]
    simp only [B64_0, b64, Tryd.f64, Option.getD, fstC, sndC, bodyC, thnC, elsC]
    simp [xI_seq, xI_region, xI_ret, regA, regOps, runOps, opStep, wantedA, opA, evo, evos, calleeA, lk, nif_eq, putE, paramsE, valS, val2, keepE, restrict, finA, resA, binA, binInt, ofConst, ofConst1, loadA, TK.isAgg, asVar, unA, builtinA, lenOpA, lenA, ileb_cast, ileb_eq, ieqb_dec, indexAddrA, inB_dec, evPairs, storeA, AV.cellsOf, pairsOf, xI_nil, binBool, gcE, evOpt, tagZ, xI_block, xI_loopH, xI_condM, xI_exitM, xI_skip, xI_blk, exitA, ty2, ty27, ty117, eK64_0_0]
    simp only [R64_0_0, b64, Tryd.f64, Option.getD, fstC, sndC, bodyC, thnC, elsC]
    simp [xI_seq, xI_region, xI_ret, regA, regOps, runOps, opStep, wantedA, opA, evo, evos, calleeA, lk, nif_eq, putE, paramsE, valS, val2, keepE, restrict, finA, resA, binA, binInt, ofConst, ofConst1, loadA, TK.isAgg, asVar, unA, builtinA, lenOpA, lenA, ileb_cast, ileb_eq, ieqb_dec, indexAddrA, inB_dec, evPairs, storeA, AV.cellsOf, pairsOf, xI_nil, binBool, gcE, evOpt, tagZ, xI_block, xI_loopH, xI_condM, xI_exitM, xI_skip, xI_blk, exitA, ty2, ty27, ty117, eK64_0_0, hs, outR, endR]
  | succ m ih =>
    intro n l σ r hl hn hp hb hr
    have hpl := rbit_lt w n
    have hcp : cellsAt σ (.ptr 0 0) 2 = some [.int .i64 w, .int .i64 t] := by simp [cellsAt, hp, getCells, takeN, dropN]
    have hn0 : 1 < σ.n := hb.1
    obtain ⟨σ1, r1, ha, hb1, hrn, hnn, ho1⟩ := c91 hb (by omega) (bb (rbit w n))
    have hp1 := (ho1 0 (by omega) (by decide) (fun e => hr e.symm)).trans hp
    have hc1 := c114 w t n hw ht (by omega) σ
    have hc3 := c115 (rbit w n) hpl σ
    obtain ⟨σ', h1⟩ := ih (rnext w t n) (l ++ [bb (rbit w n)]) σ1 r1 (by simp; omega) (rnext_lt hn) hp1 hb1 (by omega)
    refine ⟨σ', ?_⟩
    rw [show l ++ outR w t (m + 1) n = l ++ [bb (rbit w n)] ++ outR w t m (rnext w t n) by simp [outR], show endR w t (m + 1) n = endR w t m (rnext w t n) from rfl]
    simp only [List.length_append, List.length_singleton] at h1
    have hlt : ¬ c ≤ l.length := by omega
    have hlt2 : l.length < c := by omega
    have hw1 := wrapS (n := l.length) (by omega)
    rw [fi64] at h1 ⊢
    rw [xl64_0]
    simp only [B64_0, b64, Tryd.f64, Option.getD, fstC, sndC, bodyC, thnC, elsC]
    simp [xI_seq, xI_region, xI_ret, regA, regOps, runOps, opStep, wantedA, opA, evo, evos, calleeA, lk, nif_eq, putE, paramsE, valS, val2, keepE, restrict, finA, resA, binA, binInt, ofConst, ofConst1, loadA, TK.isAgg, asVar, unA, builtinA, lenOpA, lenA, ileb_cast, ileb_eq, ieqb_dec, indexAddrA, inB_dec, evPairs, storeA, AV.cellsOf, pairsOf, xI_nil, binBool, gcE, evOpt, tagZ, xI_block, xI_loopH, xI_condM, xI_exitM, xI_skip, xI_blk, exitA, ty2, ty27, ty117, eK64_0_0, ty27, hlt, hlt2, hw1, ha, hcp, hc1, hc3]
    simpa using h1
theorem v64 (w t c n : Nat) (hw : w ≤ 16) (ht : t < 65536) (hc : c ≤ 1048576) (hn : n < 2 ^ w) : FnV TT 64 [.agg [.int .i64 w, .int .i64 t], .int .i64 n, .int .i64 c] (.tup [.str (outR w t c n), .int .i64 (endR w t c n : Nat)]) := by
  obtain ⟨σ', h⟩ := l64 w t c hw ht hc c n [] (((⟨[], 0⟩ : St).push ⟨[.int .i64 w, .int .i64 t], 2, false⟩).push ⟨[.nilP, .nilS], tagOf 117 2, false⟩) 1 (by simp) hn rfl (Bld.new ((⟨[], 0⟩ : St).push ⟨[.int .i64 w, .int .i64 t], 2, false⟩)) (by decide)
  refine FnV.mk fn64 rfl md64 ⟨σ', ?_⟩ (fun _ => rfl) rfl
  rw [fi64]
  rw [fi64] at h
  simp only [List.nil_append, List.length_nil, Int.natCast_zero, show ((0 : Nat) : Int) = 0 from rfl] at h
  simp [xI_seq, xI_region, xI_ret, regA, regOps, runOps, opStep, wantedA, opA, evo, evos, calleeA, lk, nif_eq, putE, paramsE, valS, val2, keepE, restrict, finA, resA, binA, binInt, ofConst, ofConst1, loadA, TK.isAgg, asVar, unA, builtinA, lenOpA, lenA, ileb_cast, ileb_eq, ieqb_dec, indexAddrA, inB_dec, evPairs, storeA, AV.cellsOf, pairsOf, xI_nil, binBool, gcE, evOpt, tagZ, xI_block, xI_loopH, xI_condM, xI_exitM, xI_skip, xI_blk, exitA, ty2, ty27, ty117, eK64_0_0, ty117, allOne, AV.one, n_push]
  exact h

def rbOk (w t s n : Int) : Bool := rst w t s && inR n 0 400
def rbV (w t s n : Int) : List UInt8 := if rbOk w t s n = true then outR w.toNat t.toNat n.toNat s.toNat else []
theorem rbV_no {w t s n : Int} (h : rbOk w t s n = false) : rbV w t s n = [] := by simp [rbV, h]
theorem rbV_yes {w t s n : Nat} (h : rbOk w t s n = true) : rbV w t s n = outR w t n s := by simp [rbV, h]
theorem rbOk_of {w t s n : Nat} (hw : w ≤ 16) (ht : t < 2 ^ w) (hs : s < 2 ^ w) (hn : n ≤ 400) : rbOk w t s n = true := by
  simp only [rbOk, Bool.and_eq_true]
  exact ⟨rst_of hw ht hs, inR_iff.2 (by omega)⟩

theorem v68 (w t s : Int) : FnV TT 68 [.agg [.int .i64 w, .int .i64 t], .int .i64 s] (.bool (rst w t s)) := by
  refine FnV.mk fn68 rfl md68 ⟨(⟨[], 0⟩ : St).push ⟨[.int .i64 w, .int .i64 t], 2, false⟩, ?_⟩ (fun _ => rfl) rfl
  obtain ⟨σ, hσ⟩ : ∃ σ, (⟨[], 0⟩ : St).push ⟨[.int .i64 w, .int .i64 t], 2, false⟩ = σ := ⟨_, rfl⟩
  have hcp : cellsAt σ (.ptr 0 0) 1 = some [.int .i64 w] := by subst hσ; rfl
  have hcp2 : cellsAt σ (.ptr 0 0) 2 = some [.int .i64 w, .int .i64 t] := by subst hσ; rfl
  have hi : callI TT 62 [.agg [.int .i64 w, .int .i64 t]] σ = some (.bool (vreg w t), σ) := v62 w t σ _ rfl
  rw [fi68, hσ]
  cases h1 : vreg w t with
  | false =>
    rw [h1] at hi
    simp [xI_seq, xI_region, xI_ret, regA, regOps, runOps, opStep, wantedA, opA, evo, evos, calleeA, lk, nif_eq, putE, paramsE, valS, val2, keepE, restrict, finA, resA, binA, binInt, ofConst, ofConst1, loadA, TK.isAgg, asVar, unA, builtinA, lenOpA, lenA, ileb_cast, ileb_eq, ieqb_dec, indexAddrA, inB_dec, evPairs, storeA, AV.cellsOf, pairsOf, xI_nil, binBool, gcE, evOpt, tagZ, xI_block, xI_loopH, xI_condM, xI_exitM, xI_skip, xI_blk, exitA, ty2, ty27, runTr, pairsOk, pairOk, lstAt, lastOf, sameVal, AV.eqv, eqvs, eqvs_ints, regOps, blt_dec, cond_true, cond_false, fieldAddrA, allOne, AV.one, n_push, ty2, ty27, hσ, hcp, hcp2, hi]
    simp [rst, h1]
  | true =>
    rw [h1] at hi
    obtain ⟨k, m, rfl, rfl, hk, _, _⟩ := reg_nat h1
    have e2 := sh_1 (b := k) (by omega)
    have e3 := pw_dec hk
    have hc := c69 s 0 (((pw k : Nat) : Int) - 1) σ
    simp [xI_seq, xI_region, xI_ret, regA, regOps, runOps, opStep, wantedA, opA, evo, evos, calleeA, lk, nif_eq, putE, paramsE, valS, val2, keepE, restrict, finA, resA, binA, binInt, ofConst, ofConst1, loadA, TK.isAgg, asVar, unA, builtinA, lenOpA, lenA, ileb_cast, ileb_eq, ieqb_dec, indexAddrA, inB_dec, evPairs, storeA, AV.cellsOf, pairsOf, xI_nil, binBool, gcE, evOpt, tagZ, xI_block, xI_loopH, xI_condM, xI_exitM, xI_skip, xI_blk, exitA, ty2, ty27, runTr, pairsOk, pairOk, lstAt, lastOf, sameVal, AV.eqv, eqvs, eqvs_ints, regOps, blt_dec, cond_true, cond_false, fieldAddrA, allOne, AV.one, n_push, ty2, ty27, hσ, hcp, hcp2, hi, hc, e2, e3]
    simp [rst, h1]

theorem v21 (w t s n : Int) : FnV TT 21 [.agg [.int .i64 w, .int .i64 t], .int .i64 s, .int .i64 n] (.tup [.str (rbV w t s n), .bool (rbOk w t s n)]) := by
  refine FnV.mk fn21 rfl md21 ?_ (fun _ => rfl) rfl
  obtain ⟨σ, hσ⟩ : ∃ σ, (⟨[], 0⟩ : St).push ⟨[.int .i64 w, .int .i64 t], 2, false⟩ = σ := ⟨_, rfl⟩
  have hcp : cellsAt σ (.ptr 0 0) 2 = some [.int .i64 w, .int .i64 t] := by subst hσ; rfl
  have h : callI TT 68 [.agg [.int .i64 w, .int .i64 t], .int .i64 s] σ = some (.bool (rst w t s), σ) := v68 w t s σ _ rfl
  have hi := c69 n 0 400 σ
  rw [fi21]
  cases h1 : rst w t s with
  | false =>
    rw [h1] at h
    have hj : rbOk w t s n = false := by simp [rbOk, h1]
    rw [rbV_no hj, hj]
    simp [xI_seq, xI_region, xI_ret, regA, regOps, runOps, opStep, wantedA, opA, evo, evos, calleeA, lk, nif_eq, putE, paramsE, valS, val2, keepE, restrict, finA, resA, binA, binInt, ofConst, ofConst1, loadA, TK.isAgg, asVar, unA, builtinA, lenOpA, lenA, ileb_cast, ileb_eq, ieqb_dec, indexAddrA, inB_dec, evPairs, storeA, AV.cellsOf, pairsOf, xI_nil, binBool, gcE, evOpt, tagZ, xI_block, xI_loopH, xI_condM, xI_exitM, xI_skip, xI_blk, exitA, ty4, ty27, runTr, pairsOk, pairOk, lstAt, lastOf, sameVal, AV.eqv, eqvs, eqvs_ints, regOps, blt_dec, cond_true, cond_false, fieldAddrA, allOne, AV.one, n_push, ty2, ty27, hσ, hcp, h]
  | true =>
    rw [h1] at h
    obtain ⟨k, m, q, rfl, rfl, rfl, hk, hm, hq, hm6, hq6⟩ := rst_nat h1
    cases h8 : inR n 0 400 with
    | false =>
      rw [h8] at hi
      have hj : rbOk k m q n = false := by simp [rbOk, h1, h8]
      rw [rbV_no hj, hj]
      simp [xI_seq, xI_region, xI_ret, regA, regOps, runOps, opStep, wantedA, opA, evo, evos, calleeA, lk, nif_eq, putE, paramsE, valS, val2, keepE, restrict, finA, resA, binA, binInt, ofConst, ofConst1, loadA, TK.isAgg, asVar, unA, builtinA, lenOpA, lenA, ileb_cast, ileb_eq, ieqb_dec, indexAddrA, inB_dec, evPairs, storeA, AV.cellsOf, pairsOf, xI_nil, binBool, gcE, evOpt, tagZ, xI_block, xI_loopH, xI_condM, xI_exitM, xI_skip, xI_blk, exitA, ty4, ty27, runTr, pairsOk, pairOk, lstAt, lastOf, sameVal, AV.eqv, eqvs, eqvs_ints, regOps, blt_dec, cond_true, cond_false, fieldAddrA, allOne, AV.one, n_push, ty2, ty27, hσ, hcp, h, hi]
    | true =>
      rw [h8] at hi
      have hn := inR_iff.1 h8
      obtain ⟨c, rfl⟩ : ∃ c : Nat, n = c := ⟨n.toNat, by omega⟩
      have hj : rbOk k m q c = true := by simp [rbOk, h1, h8]
      rw [rbV_yes hj, hj]
      have e1 : callI TT 64 [.agg [.int .i64 k, .int .i64 m], .int .i64 q, .int .i64 c] σ = some (.tup [.str (outR k m c q), .int .i64 (endR k m c q : Nat)], σ) := v64 k m c q hk hm6 (by omega) hq σ _ rfl
      simp [xI_seq, xI_region, xI_ret, regA, regOps, runOps, opStep, wantedA, opA, evo, evos, calleeA, lk, nif_eq, putE, paramsE, valS, val2, keepE, restrict, finA, resA, binA, binInt, ofConst, ofConst1, loadA, TK.isAgg, asVar, unA, builtinA, lenOpA, lenA, ileb_cast, ileb_eq, ieqb_dec, indexAddrA, inB_dec, evPairs, storeA, AV.cellsOf, pairsOf, xI_nil, binBool, gcE, evOpt, tagZ, xI_block, xI_loopH, xI_condM, xI_exitM, xI_skip, xI_blk, exitA, ty4, ty27, runTr, pairsOk, pairOk, lstAt, lastOf, sameVal, AV.eqv, eqvs, eqvs_ints, regOps, blt_dec, cond_true, cond_false, fieldAddrA, allOne, AV.one, n_push, ty2, ty27, hσ, hcp, h, hi, e1]

open Go.Wd
def zA : List AV := List.replicate 256 (.bool false)
theorem tyA : TT.ty 173 = some ⟨.array 256 4, 256, 256, zA⟩ := ty173
theorem tgA : tagZ 173 zA 256 = 256 := by kernel_rfl
theorem zA_len : zA.length = 256 := by rw [zA]; exact List.length_replicate

/-- Is a byte the letter of a bit? -/
def isBit (x : UInt8) : Bool := x == 48 || x == 49
def isBits (l : List UInt8) : Bool := decide (l.length ≤ 400) && l.all isBit
def setA : List AV := (List.range 256).map fun i => .bool (i == 48 || i == 49)
theorem setA_get {i : Nat} (h : i < 256) : getCells setA i 1 = some [.bool (i == 48 || i == 49)] := by
  rw [getCells_eq, if_pos (by simp [setA]; omega)]
  simp only [setA, ← List.map_drop, ← List.map_take]
  rw [List.drop_eq_getElem_cons (by simpa using h)]
  simp
theorem isBit_nat (x : UInt8) : isBit x = (x.toNat == 48 || x.toNat == 49) := by
  have h1 : (x == 48) = (x.toNat == 48) := by
    by_cases h : x = 48
    · subst h; rfl
    · have h9 : x.toNat ≠ 48 := fun e => h (UInt8.toNat_inj.1 e)
      rw [beq_false_of_ne h, beq_false_of_ne h9]
  have h2 : (x == 49) = (x.toNat == 49) := by
    by_cases h : x = 49
    · subst h; rfl
    · have h9 : x.toNat ≠ 49 := fun e => h (UInt8.toNat_inj.1 e)
      rw [beq_false_of_ne h, beq_false_of_ne h9]
  rw [isBit, h1, h2]
set_option maxRecDepth 100000 in
theorem r151 : FnV TT 151 [.str [48, 49]] (.tup [.agg setA, .bool true]) := FnV.mk fn151 rfl md151 (exI_of_exec (n := 1000) (by kernel_rfl)) (fun _ => rfl) (by kernel_rfl)

theorem c169 {σ : St} {b : Nat} {o : Bool} {z : Nat} (hb : σ.get b = some ⟨setA, z, o⟩) (x : UInt8) : callI TT 169 [.ptr b 0, .int .u8 x.toNat] σ = some (.bool (isBit x), σ) := by
  have hx := x.toNat_lt
  have h1 : x.toNat < 256 := by omega
  have h1i : (x.toNat : Int) < 256 := by omega
  have hc : cellsAt σ (.ptr b x.toNat) 1 = some [.bool (isBit x)] := by simp only [cellsAt, hb, setA_get h1, isBit_nat]
  rw [cI_0 fn169 rfl md169, fi169]
  simp [xI_seq, xI_region, xI_ret, regA, regOps, runOps, opStep, wantedA, opA, evo, evos, calleeA, lk, nif_eq, putE, paramsE, valS, val2, keepE, restrict, finA, resA, binA, binInt, ofConst, ofConst1, loadA, TK.isAgg, asVar, unA, builtinA, lenOpA, lenA, ileb_cast, ileb_eq, ieqb_dec, indexAddrA, inB_dec, evPairs, storeA, AV.cellsOf, pairsOf, xI_nil, binBool, gcE, evOpt, xI_block, xI_loopH, xI_condM, xI_exitM, xI_skip, xI_blk, exitA, ty4, indexAddrA, ty4, hc, h1, h1i, tyA, tgA]
theorem takeWhile_none {l : List UInt8} : l.dropWhile isBit = [] ↔ l.all isBit = true := by
  induction l with
  | nil => simp
  | cons x l ih => cases h : isBit x <;> simp [List.dropWhile_cons, h, ih]
theorem trim_none (l : List UInt8) : (((l.reverse.dropWhile isBit).reverse).dropWhile isBit == []) = l.all isBit := by
  have key : ((l.reverse.dropWhile isBit).reverse).dropWhile isBit = [] ↔ l.all isBit = true := by
    rw [takeWhile_none]
    constructor
    · intro h
      rw [List.all_reverse] at h
      have h2 : l.reverse.dropWhile isBit = [] := by
        cases hx : l.reverse.dropWhile isBit with
        | nil => rfl
        | cons y t =>
          have hy : isBit y = false := by
            have := List.head?_dropWhile_not isBit l.reverse
            rw [hx] at this
            simpa using this
          rw [hx] at h
          simp [hy] at h
      have h3 := takeWhile_none.1 h2
      rwa [List.all_reverse] at h3
    · intro h
      have h2 : l.reverse.dropWhile isBit = [] := takeWhile_none.2 (by rwa [List.all_reverse])
      rw [h2]; rfl
  rw [Bool.eq_iff_iff, beq_iff_eq]
  exact key

noncomputable def b152 : Code := Tryd.f152.body.getD .skip
noncomputable def B152_0 : Code := (bodyC (bodyC (fstC (sndC b152))))
noncomputable def K152_0 : List It := .lp B152_0 :: .blk 0 :: .code (sndC (sndC b152)) :: []
theorem xl152_0 {fi : FI} {env : Env} {σ : St} : exI TT fi K152_0 env σ = exI TT fi (.code B152_0 :: K152_0) env σ := by unfold K152_0; exact xI_lp
noncomputable def R152_0_0 : List It := .code (sndC (sndC b152)) :: []
theorem eK152_0_0 : exitA 0 K152_0 = some R152_0_0 := rfl
theorem l152 {σ : St} {b : Nat} {o : Bool} {z : Nat} (hb : σ.get b = some ⟨setA, z, o⟩) : ∀ l : List UInt8, l.length < 1000000 → exI TT (FI.of Tryd.f152 (TT.an 152)) K152_0 [(0, .str l), (1, .ptr b 0)] σ = some (.str (l.dropWhile isBit), σ) := by
  intro l
  induction l with
  | nil =>
    intro _
    rw [fi152]
    rw [xl152_0]
    simp only [B152_0, b152, Tryd.f152, Option.getD, fstC, sndC, bodyC, thnC, elsC]
    simp [xI_seq, xI_region, xI_ret, regA, regOps, runOps, opStep, wantedA, opA, evo, evos, calleeA, lk, nif_eq, putE, paramsE, valS, val2, keepE, restrict, finA, resA, binA, binInt, ofConst, ofConst1, loadA, TK.isAgg, asVar, unA, builtinA, lenOpA, lenA, ileb_cast, ileb_eq, ieqb_dec, indexAddrA, inB_dec, evPairs, storeA, AV.cellsOf, pairsOf, xI_nil, binBool, gcE, evOpt, tagZ, xI_block, xI_loopH, xI_condM, xI_exitM, xI_skip, xI_blk, exitA, ty3, ty4, ty9, eK152_0_0, ty9]
    simp only [R152_0_0, b152, Tryd.f152, Option.getD, fstC, sndC, bodyC, thnC, elsC]
    simp [xI_seq, xI_region, xI_ret, regA, regOps, runOps, opStep, wantedA, opA, evo, evos, calleeA, lk, nif_eq, putE, paramsE, valS, val2, keepE, restrict, finA, resA, binA, binInt, ofConst, ofConst1, loadA, TK.isAgg, asVar, unA, builtinA, lenOpA, lenA, ileb_cast, ileb_eq, ieqb_dec, indexAddrA, inB_dec, evPairs, storeA, AV.cellsOf, pairsOf, xI_nil, binBool, gcE, evOpt, tagZ, xI_block, xI_loopH, xI_condM, xI_exitM, xI_skip, xI_blk, exitA, ty3, ty4, ty9, eK152_0_0, ty9]
  | cons x l ih =>
    intro hl
    simp only [List.length_cons] at hl
    have hc := c169 hb x
    have hbd : (1 : Int) ≤ (l.length : Int) + 1 := by omega
    cases hx : isBit x with
    | false =>
      rw [hx] at hc
      rw [List.dropWhile_cons, if_neg (by simp [hx])]
      rw [fi152]
      rw [xl152_0]
      simp only [B152_0, b152, Tryd.f152, Option.getD, fstC, sndC, bodyC, thnC, elsC]
      simp [xI_seq, xI_region, xI_ret, regA, regOps, runOps, opStep, wantedA, opA, evo, evos, calleeA, lk, nif_eq, putE, paramsE, valS, val2, keepE, restrict, finA, resA, binA, binInt, ofConst, ofConst1, loadA, TK.isAgg, asVar, unA, builtinA, lenOpA, lenA, ileb_cast, ileb_eq, ieqb_dec, indexAddrA, inB_dec, evPairs, storeA, AV.cellsOf, pairsOf, xI_nil, binBool, gcE, evOpt, tagZ, xI_block, xI_loopH, xI_condM, xI_exitM, xI_skip, xI_blk, exitA, ty3, ty4, ty9, eK152_0_0, ty9, indexA, sliceA, boundA, hc, hbd]
      simp only [R152_0_0, b152, Tryd.f152, Option.getD, fstC, sndC, bodyC, thnC, elsC]
      simp [xI_seq, xI_region, xI_ret, regA, regOps, runOps, opStep, wantedA, opA, evo, evos, calleeA, lk, nif_eq, putE, paramsE, valS, val2, keepE, restrict, finA, resA, binA, binInt, ofConst, ofConst1, loadA, TK.isAgg, asVar, unA, builtinA, lenOpA, lenA, ileb_cast, ileb_eq, ieqb_dec, indexAddrA, inB_dec, evPairs, storeA, AV.cellsOf, pairsOf, xI_nil, binBool, gcE, evOpt, tagZ, xI_block, xI_loopH, xI_condM, xI_exitM, xI_skip, xI_blk, exitA, ty3, ty4, ty9, eK152_0_0, ty9, indexA, sliceA, boundA, hc, hbd]
    | true =>
      rw [hx] at hc
      have h1 := ih (by omega)
      rw [List.dropWhile_cons, if_pos hx]
      rw [fi152] at h1 ⊢
      rw [xl152_0]
      simp only [B152_0, b152, Tryd.f152, Option.getD, fstC, sndC, bodyC, thnC, elsC]
      simp [xI_seq, xI_region, xI_ret, regA, regOps, runOps, opStep, wantedA, opA, evo, evos, calleeA, lk, nif_eq, putE, paramsE, valS, val2, keepE, restrict, finA, resA, binA, binInt, ofConst, ofConst1, loadA, TK.isAgg, asVar, unA, builtinA, lenOpA, lenA, ileb_cast, ileb_eq, ieqb_dec, indexAddrA, inB_dec, evPairs, storeA, AV.cellsOf, pairsOf, xI_nil, binBool, gcE, evOpt, tagZ, xI_block, xI_loopH, xI_condM, xI_exitM, xI_skip, xI_blk, exitA, ty3, ty4, ty9, eK152_0_0, ty9, indexA, sliceA, boundA, hc, hbd]
      exact h1
theorem c152 {σ : St} {b : Nat} {o : Bool} {z : Nat} (hb : σ.get b = some ⟨setA, z, o⟩) (l : List UInt8) (hl : l.length < 1000000) : callI TT 152 [.str l, .ptr b 0] σ = some (.str (l.dropWhile isBit), σ) := by
  have h1 := l152 hb l hl
  rw [cI_0 fn152 rfl md152, fi152]
  rw [fi152] at h1
  simp [xI_seq, xI_region, xI_ret, regA, regOps, runOps, opStep, wantedA, opA, evo, evos, calleeA, lk, nif_eq, putE, paramsE, valS, val2, keepE, restrict, finA, resA, binA, binInt, ofConst, ofConst1, loadA, TK.isAgg, asVar, unA, builtinA, lenOpA, lenA, ileb_cast, ileb_eq, ieqb_dec, indexAddrA, inB_dec, evPairs, storeA, AV.cellsOf, pairsOf, xI_nil, binBool, gcE, evOpt, tagZ, xI_block, xI_loopH, xI_condM, xI_exitM, xI_skip, xI_blk, exitA, ty3, ty4, ty9, eK152_0_0]
  exact h1

noncomputable def b153 : Code := Tryd.f153.body.getD .skip
noncomputable def B153_0 : Code := (bodyC (bodyC (fstC (sndC b153))))
noncomputable def K153_0 : List It := .lp B153_0 :: .blk 0 :: .code (sndC (sndC b153)) :: []
theorem xl153_0 {fi : FI} {env : Env} {σ : St} : exI TT fi K153_0 env σ = exI TT fi (.code B153_0 :: K153_0) env σ := by unfold K153_0; exact xI_lp
noncomputable def R153_0_0 : List It := .code (sndC (sndC b153)) :: []
theorem eK153_0_0 : exitA 0 K153_0 = some R153_0_0 := rfl
theorem l153 {σ : St} {b : Nat} {o : Bool} {z : Nat} (hb : σ.get b = some ⟨setA, z, o⟩) : ∀ r : List UInt8, r.length < 1000000 → exI TT (FI.of Tryd.f153 (TT.an 153)) K153_0 [(0, .str r.reverse), (1, .ptr b 0)] σ = some (.str (r.dropWhile isBit).reverse, σ) := by
  intro r
  induction r with
  | nil =>
    intro _
    rw [fi153]
    rw [xl153_0]
    simp only [B153_0, b153, Tryd.f153, Option.getD, fstC, sndC, bodyC, thnC, elsC]
    simp [xI_seq, xI_region, xI_ret, regA, regOps, runOps, opStep, wantedA, opA, evo, evos, calleeA, lk, nif_eq, putE, paramsE, valS, val2, keepE, restrict, finA, resA, binA, binInt, ofConst, ofConst1, loadA, TK.isAgg, asVar, unA, builtinA, lenOpA, lenA, ileb_cast, ileb_eq, ieqb_dec, indexAddrA, inB_dec, evPairs, storeA, AV.cellsOf, pairsOf, xI_nil, binBool, gcE, evOpt, tagZ, xI_block, xI_loopH, xI_condM, xI_exitM, xI_skip, xI_blk, exitA, ty3, ty4, ty9, eK153_0_0, ty9]
    simp only [R153_0_0, b153, Tryd.f153, Option.getD, fstC, sndC, bodyC, thnC, elsC]
    simp [xI_seq, xI_region, xI_ret, regA, regOps, runOps, opStep, wantedA, opA, evo, evos, calleeA, lk, nif_eq, putE, paramsE, valS, val2, keepE, restrict, finA, resA, binA, binInt, ofConst, ofConst1, loadA, TK.isAgg, asVar, unA, builtinA, lenOpA, lenA, ileb_cast, ileb_eq, ieqb_dec, indexAddrA, inB_dec, evPairs, storeA, AV.cellsOf, pairsOf, xI_nil, binBool, gcE, evOpt, tagZ, xI_block, xI_loopH, xI_condM, xI_exitM, xI_skip, xI_blk, exitA, ty3, ty4, ty9, eK153_0_0, ty9]
  | cons x r ih =>
    intro hl
    simp only [List.length_cons] at hl
    have hc := c169 hb x
    have hw : wrapA .i64 (((r.length : Nat) : Int) + 1 - 1) = ((r.length : Nat) : Int) := by rw [wrapA_id (by omega) (by omega)]; omega
    have hw2 : wrapA .i64 ((r.length : Nat) : Int) = ((r.length : Nat) : Int) := wrapA_id (by omega) (by omega)
    have hbd : ((r.length : Nat) : Int) ≤ (r.length : Int) + 1 := by omega
    have hn : ¬ ((r.length : Int) + 1 ≤ 0) := by omega
    have hget : (r.reverse ++ [x])[r.length]? = some x := by rw [List.getElem?_append_right (by simp)]; simp
    have htk : (r.reverse ++ [x]).take r.length = r.reverse := by rw [List.take_append_of_le_length (by simp)]; exact List.take_of_length_le (by simp)
    cases hx : isBit x with
    | false =>
      rw [hx] at hc
      rw [List.dropWhile_cons, if_neg (by simp [hx]), List.reverse_cons]
      rw [fi153]
      rw [xl153_0]
      simp only [B153_0, b153, Tryd.f153, Option.getD, fstC, sndC, bodyC, thnC, elsC]
      simp [xI_seq, xI_region, xI_ret, regA, regOps, runOps, opStep, wantedA, opA, evo, evos, calleeA, lk, nif_eq, putE, paramsE, valS, val2, keepE, restrict, finA, resA, binA, binInt, ofConst, ofConst1, loadA, TK.isAgg, asVar, unA, builtinA, lenOpA, lenA, ileb_cast, ileb_eq, ieqb_dec, indexAddrA, inB_dec, evPairs, storeA, AV.cellsOf, pairsOf, xI_nil, binBool, gcE, evOpt, tagZ, xI_block, xI_loopH, xI_condM, xI_exitM, xI_skip, xI_blk, exitA, ty3, ty4, ty9, eK153_0_0, ty9, indexA, sliceA, boundA, hc, hw, hw2, hn, hget, htk, hbd]
      simp only [R153_0_0, b153, Tryd.f153, Option.getD, fstC, sndC, bodyC, thnC, elsC]
      simp [xI_seq, xI_region, xI_ret, regA, regOps, runOps, opStep, wantedA, opA, evo, evos, calleeA, lk, nif_eq, putE, paramsE, valS, val2, keepE, restrict, finA, resA, binA, binInt, ofConst, ofConst1, loadA, TK.isAgg, asVar, unA, builtinA, lenOpA, lenA, ileb_cast, ileb_eq, ieqb_dec, indexAddrA, inB_dec, evPairs, storeA, AV.cellsOf, pairsOf, xI_nil, binBool, gcE, evOpt, tagZ, xI_block, xI_loopH, xI_condM, xI_exitM, xI_skip, xI_blk, exitA, ty3, ty4, ty9, eK153_0_0, ty9, indexA, sliceA, boundA, hc, hw, hw2, hn, hget, htk, hbd]
    | true =>
      rw [hx] at hc
      have h1 := ih (by omega)
      rw [List.dropWhile_cons, if_pos hx, List.reverse_cons]
      rw [fi153] at h1 ⊢
      rw [xl153_0]
      simp only [B153_0, b153, Tryd.f153, Option.getD, fstC, sndC, bodyC, thnC, elsC]
      simp [xI_seq, xI_region, xI_ret, regA, regOps, runOps, opStep, wantedA, opA, evo, evos, calleeA, lk, nif_eq, putE, paramsE, valS, val2, keepE, restrict, finA, resA, binA, binInt, ofConst, ofConst1, loadA, TK.isAgg, asVar, unA, builtinA, lenOpA, lenA, ileb_cast, ileb_eq, ieqb_dec, indexAddrA, inB_dec, evPairs, storeA, AV.cellsOf, pairsOf, xI_nil, binBool, gcE, evOpt, tagZ, xI_block, xI_loopH, xI_condM, xI_exitM, xI_skip, xI_blk, exitA, ty3, ty4, ty9, eK153_0_0, ty9, indexA, sliceA, boundA, hc, hw, hw2, hn, hget, htk, hbd]
      exact h1
theorem c153 {σ : St} {b : Nat} {o : Bool} {z : Nat} (hb : σ.get b = some ⟨setA, z, o⟩) (l : List UInt8) (hl : l.length < 1000000) : callI TT 153 [.str l, .ptr b 0] σ = some (.str (l.reverse.dropWhile isBit).reverse, σ) := by
  have h1 := l153 hb l.reverse (by simpa using hl)
  rw [List.reverse_reverse] at h1
  rw [cI_0 fn153 rfl md153, fi153]
  rw [fi153] at h1
  simp [xI_seq, xI_region, xI_ret, regA, regOps, runOps, opStep, wantedA, opA, evo, evos, calleeA, lk, nif_eq, putE, paramsE, valS, val2, keepE, restrict, finA, resA, binA, binInt, ofConst, ofConst1, loadA, TK.isAgg, asVar, unA, builtinA, lenOpA, lenA, ileb_cast, ileb_eq, ieqb_dec, indexAddrA, inB_dec, evPairs, storeA, AV.cellsOf, pairsOf, xI_nil, binBool, gcE, evOpt, tagZ, xI_block, xI_loopH, xI_condM, xI_exitM, xI_skip, xI_blk, exitA, ty3, ty4, ty9, eK153_0_0]
  exact h1

theorem setA_one : allOne setA = true := by kernel_rfl
theorem setA_len : setA.length = 256 := by simp [setA]
theorem k113 (l r : List UInt8) (z0 : List AV) (σ1 : St) (hl : ¬ l = []) (c1 : ∀ σ, callI TT 151 [.str [48, 49]] σ = some (.tup [.agg setA, .bool true], σ)) (s1 : storeCellsA ((⟨[], 0⟩ : St).push ⟨zA, 256, false⟩) 0 0 setA = some σ1) (c2 : callI TT 153 [.str l, .ptr 0 0] σ1 = some (.str r, σ1)) (r2 : List UInt8) (c3 : callI TT 152 [.str r, .ptr 0 0] σ1 = some (.str r2, σ1)) :
    exI TT (FI.of Tryd.f113 (TT.an 113)) [.code (Tryd.f113.body.getD .skip)] (paramsE 0 [.str l, .str [48, 49]]) ⟨[], 0⟩ = some (.str r2, σ1) := by
  have hz : (l == ([] : List UInt8)) = false := by simpa using hl
  have hlen := setA_len
  rw [fi113]
  simp only [Tryd.f113, Option.getD]
  simp [xI_seq, xI_region, xI_ret, regA, regOps, runOps, opStep, wantedA, opA, evo, evos, calleeA, lk, nif_eq, putE, paramsE, valS, val2, keepE, restrict, finA, resA, binA, binInt, ofConst, ofConst1, loadA, TK.isAgg, asVar, unA, builtinA, lenOpA, lenA, ileb_cast, ileb_eq, ieqb_dec, indexAddrA, inB_dec, evPairs, storeA, AV.cellsOf, pairsOf, xI_nil, binBool, gcE, evOpt, xI_block, xI_loopH, xI_condM, xI_exitM, xI_skip, xI_blk, exitA, ty3, ty5, ty9, runTr, pairsOk, pairOk, lstAt, lastOf, sameVal, AV.eqv, eqvs, eqvs_ints, regOps, blt_dec, cond_true, cond_false, allOne, AV.one, n_push, ty9, ty4, binStr, indexA, hz, hl, hlen, c1, s1, c2, c3, tyA, tgA]
theorem k113n : exI TT (FI.of Tryd.f113 (TT.an 113)) [.code (Tryd.f113.body.getD .skip)] (paramsE 0 [.str [], .str [48, 49]]) ⟨[], 0⟩ = some (.str [], ⟨[], 0⟩) := by
  rw [fi113]
  simp only [Tryd.f113, Option.getD]
  simp [xI_seq, xI_region, xI_ret, regA, regOps, runOps, opStep, wantedA, opA, evo, evos, calleeA, lk, nif_eq, putE, paramsE, valS, val2, keepE, restrict, finA, resA, binA, binInt, ofConst, ofConst1, loadA, TK.isAgg, asVar, unA, builtinA, lenOpA, lenA, ileb_cast, ileb_eq, ieqb_dec, indexAddrA, inB_dec, evPairs, storeA, AV.cellsOf, pairsOf, xI_nil, binBool, gcE, evOpt, xI_block, xI_loopH, xI_condM, xI_exitM, xI_skip, xI_blk, exitA, ty3, ty5, ty9, runTr, pairsOk, pairOk, lstAt, lastOf, sameVal, AV.eqv, eqvs, eqvs_ints, regOps, blt_dec, cond_true, cond_false, ty9, binStr, tyA, tgA]
theorem v113 (l : List UInt8) (hl : l.length < 1000000) : FnV TT 113 [.str l, .str [48, 49]] (.str (((l.reverse.dropWhile isBit).reverse).dropWhile isBit)) := by
  by_cases h0 : l = []
  · subst h0
    exact FnV.mk (c := Tryd.f113.body.getD .skip) fn113 rfl md113 ⟨⟨[], 0⟩, k113n⟩ (fun _ => rfl) rfl
  · have hg0 : ((⟨[], 0⟩ : St).push ⟨zA, 256, false⟩).get 0 = some ⟨zA, 256, false⟩ := rfl
    have s1 : storeCellsA ((⟨[], 0⟩ : St).push ⟨zA, 256, false⟩) 0 0 setA = some (((⟨[], 0⟩ : St).push ⟨zA, 256, false⟩).set 0 ⟨setA, 256, false⟩) := by
      rw [storeCellsA_eq, hg0]
      simp only
      rw [if_pos ⟨by rw [setA_len, zA_len]; decide, setA_one⟩]
      have hput : putCells zA 0 setA = setA := by rw [putCells, List.take_zero, List.nil_append, List.drop_of_length_le (by rw [setA_len, zA_len]; decide), List.append_nil]
      rw [hput]
    have hg1 : (((⟨[], 0⟩ : St).push ⟨zA, 256, false⟩).set 0 ⟨setA, 256, false⟩).get 0 = some ⟨setA, 256, false⟩ := get_set_eq hg0
    have hlen2 : ((l.reverse.dropWhile isBit).reverse).length < 1000000 := by
      have := (List.dropWhile_sublist isBit (l := l.reverse)).length_le
      simp at this ⊢
      omega
    exact FnV.mk (c := Tryd.f113.body.getD .skip) fn113 rfl md113 ⟨_, k113 l _ [] _ h0 (fun σ => r151 σ _ rfl) s1 (c153 hg1 l hl) _ (c152 hg1 _ hlen2)⟩ (fun _ => rfl) rfl

theorem v63 (l : List UInt8) (hl : l.length ≤ 9223372036854775807) : FnV TT 63 [.str l] (.bool (isBits l)) := by
  refine FnV.mk fn63 rfl md63 ⟨⟨[], 0⟩, ?_⟩ (fun _ => rfl) rfl
  rw [fi63]
  by_cases h : l.length ≤ 400
  · have hc : callI TT 113 [.str l, .str [48, 49]] ⟨[], 0⟩ = some (.str (((l.reverse.dropWhile isBit).reverse).dropWhile isBit), ⟨[], 0⟩) := v113 l (by omega) _ _ rfl
    have ht := trim_none l
    have h' : (l.length : Int) ≤ 400 := by omega
    simp [xI_seq, xI_region, xI_ret, regA, regOps, runOps, opStep, wantedA, opA, evo, evos, calleeA, lk, nif_eq, putE, paramsE, valS, val2, keepE, restrict, finA, resA, binA, binInt, ofConst, ofConst1, loadA, TK.isAgg, asVar, unA, builtinA, lenOpA, lenA, ileb_cast, ileb_eq, ieqb_dec, indexAddrA, inB_dec, evPairs, storeA, AV.cellsOf, pairsOf, xI_nil, binBool, gcE, evOpt, tagZ, xI_block, xI_loopH, xI_condM, xI_exitM, xI_skip, xI_blk, exitA, ty3, ty9, ty9, binStr, hc, h, h']
    simp only [isBits, h, decide_true, Bool.true_and]
    rw [← ht]
    simp
  · have h' : ¬ (l.length : Int) ≤ 400 := by omega
    simp [xI_seq, xI_region, xI_ret, regA, regOps, runOps, opStep, wantedA, opA, evo, evos, calleeA, lk, nif_eq, putE, paramsE, valS, val2, keepE, restrict, finA, resA, binA, binInt, ofConst, ofConst1, loadA, TK.isAgg, asVar, unA, builtinA, lenOpA, lenA, ileb_cast, ileb_eq, ieqb_dec, indexAddrA, inB_dec, evPairs, storeA, AV.cellsOf, pairsOf, xI_nil, binBool, gcE, evOpt, tagZ, xI_block, xI_loopH, xI_condM, xI_exitM, xI_skip, xI_blk, exitA, ty3, ty9, ty9, binStr, h, h']
    simp [isBits, h]
theorem c63 (l : List UInt8) (hl : l.length ≤ 9223372036854775807) (σ : St) : callI TT 63 [.str l] σ = some (.bool (isBits l), σ) := v63 l hl σ _ rfl

open Go.Wd
theorem endR_succ (w t : Nat) : ∀ i n : Nat, endR w t (i + 1) n = rnext w t (endR w t i n)
  | 0, n => rfl
  | i + 1, n => by rw [endR, endR_succ w t i (rnext w t n)]; rfl
theorem endR_lt {w t n : Nat} (hn : n < 2 ^ w) : ∀ i : Nat, endR w t i n < 2 ^ w
  | 0 => hn
  | i + 1 => by rw [endR_succ]; exact rnext_lt (endR_lt hn i)
theorem outR_get (w t : Nat) : ∀ (m n i : Nat), i < m → (outR w t m n)[i]? = some (bb (rbit w (endR w t i n)))
  | 0, n, i, h => by omega
  | m + 1, n, 0, _ => rfl
  | m + 1, n, i + 1, h => by
    rw [outR, List.getElem?_cons_succ, outR_get w t m (rnext w t n) i (by omega)]; rfl
theorem isBit_at {l : List UInt8} (h : l.all isBit = true) {i : Nat} {x : UInt8} (hx : l[i]? = some x) : x.toNat = 48 ∨ x.toNat = 49 := by
  have := List.all_eq_true.1 h x (List.mem_of_getElem? hx)
  rw [isBit_nat] at this
  simpa using this
theorem get_at {l : List UInt8} {i : Nat} (h : i < l.length) : ∃ x, l[i]? = some x := ⟨_, List.getElem?_eq_getElem h⟩
theorem bsI1 (σ : St) (x : Int) : buildSliceA TT σ 24 1 [(0, .int .i64 x)] = some (.sl σ.n 0 1 1, σ.push ⟨[.int .i64 x], 1, false⟩) := build_one ty24 ty2
theorem bsI0 (σ : St) : buildSliceA TT σ 24 0 [] = some (.sl σ.n 0 0 0, σ.push ⟨ints [], 1, false⟩) := build_nil ty24 ty2
open Go.Wd
theorem wrap_u (z : Int) : ∃ m : Nat, wrapA .u64 z = m ∧ m < 18446744073709551616 := by
  refine ⟨(wrapA .u64 z).toNat, ?_, ?_⟩ <;> (rw [wrapA_eq]; simp [IntKind.wrap, IntKind.bits, IntKind.signed]; omega)
/-- A source of choices in the heap. -/
def SRC (σ : St) (s : Nat) (l : List Nat) (k m : Nat) : Prop := s < σ.n ∧ σ.get s = some ⟨[.lst l.length (byts l), .int .i64 k, .int .u64 m], 3, false⟩ ∧ m < 18446744073709551616
theorem SRC.set {σ : St} {s : Nat} {l : List Nat} {k m k' m' : Nat} (h : SRC σ s l k m) (hm : m' < 18446744073709551616) : ∃ σ1 σ2, storeCellsA σ s 1 [.int .i64 (k' : Int)] = some σ1 ∧ cellsAt σ1 (.ptr s 2) 1 = some [.int .u64 m] ∧ storeCellsA σ1 s 2 [.int .u64 (m' : Int)] = some σ2 ∧ SRC σ2 s l k' m' ∧ σ2.n = σ.n ∧ ∀ c, c ≠ s → σ2.get c = σ.get c := by
  obtain ⟨h1, h2, _⟩ := h
  have e1 : (σ.set s ⟨[.lst l.length (byts l), .int .i64 k', .int .u64 m], 3, false⟩).get s = some ⟨[.lst l.length (byts l), .int .i64 k', .int .u64 m], 3, false⟩ := get_set_eq h2
  refine ⟨σ.set s ⟨[.lst l.length (byts l), .int .i64 k', .int .u64 m], 3, false⟩, (σ.set s ⟨[.lst l.length (byts l), .int .i64 k', .int .u64 m], 3, false⟩).set s ⟨[.lst l.length (byts l), .int .i64 k', .int .u64 m'], 3, false⟩, ?_, ?_, ?_, ⟨h1, get_set_eq e1, hm⟩, rfl, fun c hc => ?_⟩
  · simp [storeCellsA, h2, allOne, AV.one, putN, overN]
  · simp [cellsAt, e1, getCells, takeN, dropN]
  · simp [storeCellsA, e1, allOne, AV.one, putN, overN]
  · rw [get_set_ne (fun h => hc h.symm), get_set_ne (fun h => hc h.symm)]
theorem SRC.c0 {σ : St} {s : Nat} {l : List Nat} {k m : Nat} (h : SRC σ s l k m) : cellsAt σ (.ptr s 0) 1 = some [.lst l.length (byts l)] := by simp [cellsAt, h.2.1, getCells, takeN, dropN]
theorem SRC.c1 {σ : St} {s : Nat} {l : List Nat} {k m : Nat} (h : SRC σ s l k m) : cellsAt σ (.ptr s 1) 1 = some [.int .i64 k] := by simp [cellsAt, h.2.1, getCells, takeN, dropN]
theorem SRC.c2 {σ : St} {s : Nat} {l : List Nat} {k m : Nat} (h : SRC σ s l k m) : cellsAt σ (.ptr s 2) 1 = some [.int .u64 m] := by simp [cellsAt, h.2.1, getCells, takeN, dropN]
theorem c116 (l : List Nat) (hl : ∀ x ∈ l, x < 256) (hll : l.length ≤ 1000) (k m : Nat) (hk : k ≤ 1000000) (σ : St) (s : Nat) (h : SRC σ s l k m) :
    ∃ (r m' : Nat) (σ' : St), callI TT 116 [.ptr s 0] σ = some (.int .i64 r, σ') ∧ r ≤ 255 ∧ SRC σ' s l (k + 1) m' ∧ σ'.n = σ.n ∧ ∀ c, c ≠ s → σ'.get c = σ.get c := by
  have c0 := h.c0
  have c1 := h.c1
  have hw := wrapS (n := k) (by omega)
  have step : ∀ b : Nat, ∃ (m3 : Nat) (σ1 σ2 : St), m3 < 18446744073709551616 ∧ storeCellsA σ s 1 [.int .i64 ((k : Int) + 1)] = some σ1 ∧ cellsAt σ1 (.ptr s 2) 1 = some [.int .u64 m] ∧ wrapA .u64 (wrapA .u64 (wrapA .u64 ((m : Int) * 6364136223846793005) + (b : Int)) + 1442695040888963407) = (m3 : Int) ∧ storeCellsA σ1 s 2 [.int .u64 (m3 : Int)] = some σ2 ∧ SRC σ2 s l (k + 1) m3 ∧ σ2.n = σ.n ∧ ∀ c, c ≠ s → σ2.get c = σ.get c := by
    intro b
    obtain ⟨m3, e3, h3⟩ := wrap_u (wrapA .u64 (wrapA .u64 ((m : Int) * 6364136223846793005) + (b : Int)) + 1442695040888963407)
    obtain ⟨σ1, σ2, a1, a2, a3, a4, a5, a6⟩ := h.set (k' := k + 1) h3
    exact ⟨m3, σ1, σ2, h3, by simpa using a1, a2, e3, a3, a4, a5, a6⟩
  by_cases hlt : k < l.length
  · obtain ⟨b, hb⟩ : ∃ b, l[k]? = some b := ⟨l[k], List.getElem?_eq_getElem hlt⟩
    have hb2 : b < 256 := hl b (List.mem_of_getElem? hb)
    obtain ⟨m3, σ1, σ2, h3, a1, a2, a3, a4, a5, a6, a7⟩ := step b
    have d0 := a5.c0
    have d1 := a5.c1
    have kb : ∀ σ, cellsAt σ (.lp (byts l) k) 1 = some [.int .u8 b] := fun σ => getCells_byt hb
    have u1 : wrapA .i64 (b : Int) = b := n_wrap (by omega)
    have u2 : wrapA .u64 (b : Int) = b := n_wrapu (by omega)
    have hlt2 : ¬ l.length ≤ k := by omega
    have hle : k + 1 ≤ l.length := by omega
    have hle' : (k : Int) + 1 ≤ l.length := by omega
    have hle2 : ¬ ((l.length : Int) < (k : Int) + 1) := by omega
    refine ⟨b, m3, σ2, ?_, by omega, a5, a6, a7⟩
    simp only [Int.natCast_add, show ((1 : Nat) : Int) = 1 from rfl] at d1
    rw [cI_0 fn116 rfl md116, fi116]
    simp [xI_seq, xI_region, xI_ret, regA, regOps, runOps, opStep, wantedA, opA, evo, evos, calleeA, lk, nif_eq, putE, paramsE, valS, val2, keepE, restrict, finA, resA, binA, binInt, ofConst, ofConst1, loadA, TK.isAgg, asVar, unA, builtinA, lenOpA, lenA, ileb_cast, ileb_eq, ieqb_dec, indexAddrA, inB_dec, evPairs, storeA, AV.cellsOf, pairsOf, xI_nil, binBool, gcE, evOpt, tagZ, xI_block, xI_loopH, xI_condM, xI_exitM, xI_skip, xI_blk, exitA, ty2, ty3, ty5, ty32, ty141, ty143, fieldAddrA, allOne, AV.one, ty2, ty3, ty5, ty32, ty96, ty141, ty143, c0, c1, hw, hlt, hlt2, kb, u1, u2, a1, a2, a3, a4, d0, d1, hle, hle', hle2, convA]
  · obtain ⟨m3, σ1, σ2, h3, a1, a2, a3, a4, a5, a6, a7⟩ := step 0
    have d0 := a5.c0
    have d1 := a5.c1
    have d2 := a5.c2
    have u2 : wrapA .u64 (0 : Int) = 0 := by decide
    have hlt2 : l.length ≤ k := by omega
    have hle : ¬ k + 1 ≤ l.length := by omega
    have hle' : ¬ (k : Int) + 1 ≤ l.length := by omega
    have hle2 : (l.length : Int) < (k : Int) + 1 := by omega
    have e1 : shrA (m3 : Int) (min 40 IntKind.u64.bits) = ((shrN m3 40 : Nat) : Int) := rfl
    have e2 : bitsA .and .u64 ((shrN m3 40 : Nat) : Int) 255 = some (.int .u64 ((andN (shrN m3 40) 255 : Nat) : Int)) := w_and .u64 (a := shrN m3 40) (b := 255) (by show m3 / 2 ^ 40 ≤ _; simp only [topOf]; omega) (by decide)
    have e3 : andN (shrN m3 40) 255 ≤ 255 := Nat.and_le_right
    have e4 : wrapA .i64 ((andN (shrN m3 40) 255 : Nat) : Int) = ((andN (shrN m3 40) 255 : Nat) : Int) := n_wrap (by omega)
    refine ⟨andN (shrN m3 40) 255, m3, σ2, ?_, e3, a5, a6, a7⟩
    simp only [Int.natCast_add, show ((1 : Nat) : Int) = 1 from rfl] at d1
    simp only [show ((0 : Nat) : Int) = 0 from rfl, Int.add_zero] at a3
    rw [cI_0 fn116 rfl md116, fi116]
    simp [xI_seq, xI_region, xI_ret, regA, regOps, runOps, opStep, wantedA, opA, evo, evos, calleeA, lk, nif_eq, putE, paramsE, valS, val2, keepE, restrict, finA, resA, binA, binInt, ofConst, ofConst1, loadA, TK.isAgg, asVar, unA, builtinA, lenOpA, lenA, ileb_cast, ileb_eq, ieqb_dec, indexAddrA, inB_dec, evPairs, storeA, AV.cellsOf, pairsOf, xI_nil, binBool, gcE, evOpt, tagZ, xI_block, xI_loopH, xI_condM, xI_exitM, xI_skip, xI_blk, exitA, ty2, ty3, ty5, ty32, ty141, ty143, fieldAddrA, allOne, AV.one, ty2, ty3, ty5, ty32, ty96, ty141, ty143, c0, c1, hw, hlt, hlt2, u2, a1, a2, a3, a4, d0, d1, d2, hle, hle', hle2, e1, e2, e4, convA]

theorem c66 (l : List Nat) (hl : ∀ x ∈ l, x < 256) (hll : l.length ≤ 1000) (k m : Nat) (hk : k ≤ 999000) (n : Nat) (hn : n ≤ 1000000) (σ : St) (s : Nat) (h : SRC σ s l k m) :
    ∃ (r k' m' : Nat) (σ' : St), callI TT 66 [.ptr s 0, .int .i64 n] σ = some (.int .i64 r, σ') ∧ r < max 1 n ∧ SRC σ' s l k' m' ∧ k' ≤ k + 2 ∧ σ'.n = σ.n ∧ ∀ c, c ≠ s → σ'.get c = σ.get c := by
  by_cases h1 : n ≤ 1
  · have h1' : (n : Int) ≤ 1 := by omega
    refine ⟨0, k, m, σ, ?_, by omega, h, by omega, rfl, fun _ _ => rfl⟩
    rw [cI_0 fn66 rfl md66, fi66]
    simp [xI_seq, xI_region, xI_ret, regA, regOps, runOps, opStep, wantedA, opA, evo, evos, calleeA, lk, nif_eq, putE, paramsE, valS, val2, keepE, restrict, finA, resA, binA, binInt, ofConst, ofConst1, loadA, TK.isAgg, asVar, unA, builtinA, lenOpA, lenA, ileb_cast, ileb_eq, ieqb_dec, indexAddrA, inB_dec, evPairs, storeA, AV.cellsOf, pairsOf, xI_nil, binBool, gcE, evOpt, tagZ, xI_block, xI_loopH, xI_condM, xI_exitM, xI_skip, xI_blk, exitA, ty2, h1, h1']
  · have h1' : ¬ (n : Int) ≤ 1 := by omega
    have h0 : ¬ (n : Int) = 0 := by omega
    have h00 : ¬ n = 0 := by omega
    obtain ⟨r1, m1, σ1, c1, b1, s1, e1, k1⟩ := c116 l hl hll k m (by omega) σ s h
    by_cases h2 : 200 < n
    · have h2' : (200 : Int) < (n : Int) := by omega
      obtain ⟨r2, m2, σ2, c2, b2, s2, e2, k2⟩ := c116 l hl hll (k + 1) m1 (by omega) σ1 s s1
      have w1 : wrapA .i64 ((r1 : Int) * 256) = ((mulN r1 256 : Nat) : Int) := n_wrap (a := mulN r1 256) (by show r1 * 256 ≤ _; omega)
      have w2 : wrapA .i64 (((mulN r1 256 : Nat) : Int) + (r2 : Int)) = ((addN (mulN r1 256) r2 : Nat) : Int) := by rw [← Int.natCast_add]; exact n_wrap (a := addN (mulN r1 256) r2) (by show r1 * 256 + r2 ≤ _; omega)
      have w3 : ((addN (mulN r1 256) r2 : Nat) : Int).tmod (n : Int) = ((modN (addN (mulN r1 256) r2) n : Nat) : Int) := rfl
      have w4 : ((addN (mulN r1 256) r2 : Nat) : Int) % (n : Int) = ((modN (addN (mulN r1 256) r2) n : Nat) : Int) := rfl
      have w5 : modN (addN (mulN r1 256) r2) n < n := Nat.mod_lt _ (by omega)
      refine ⟨modN (addN (mulN r1 256) r2) n, k + 2, m2, σ2, ?_, by omega, s2, Nat.le_refl _, by omega, fun c hc => (k2 c hc).trans (k1 c hc)⟩
      rw [cI_0 fn66 rfl md66, fi66]
      simp [xI_seq, xI_region, xI_ret, regA, regOps, runOps, opStep, wantedA, opA, evo, evos, calleeA, lk, nif_eq, putE, paramsE, valS, val2, keepE, restrict, finA, resA, binA, binInt, ofConst, ofConst1, loadA, TK.isAgg, asVar, unA, builtinA, lenOpA, lenA, ileb_cast, ileb_eq, ieqb_dec, indexAddrA, inB_dec, evPairs, storeA, AV.cellsOf, pairsOf, xI_nil, binBool, gcE, evOpt, tagZ, xI_block, xI_loopH, xI_condM, xI_exitM, xI_skip, xI_blk, exitA, ty2, h1, h1', h0, h00, c1, h2, h2', w1, c2, w2, w3, w4]
    · have h2' : ¬ (200 : Int) < (n : Int) := by omega
      have w3 : (r1 : Int).tmod (n : Int) = ((modN r1 n : Nat) : Int) := rfl
      have w4 : (r1 : Int) % (n : Int) = ((modN r1 n : Nat) : Int) := rfl
      have w5 : modN r1 n < n := Nat.mod_lt _ (by omega)
      refine ⟨modN r1 n, k + 1, m1, σ1, ?_, by omega, s1, by omega, e1, k1⟩
      rw [cI_0 fn66 rfl md66, fi66]
      simp [xI_seq, xI_region, xI_ret, regA, regOps, runOps, opStep, wantedA, opA, evo, evos, calleeA, lk, nif_eq, putE, paramsE, valS, val2, keepE, restrict, finA, resA, binA, binInt, ofConst, ofConst1, loadA, TK.isAgg, asVar, unA, builtinA, lenOpA, lenA, ileb_cast, ileb_eq, ieqb_dec, indexAddrA, inB_dec, evPairs, storeA, AV.cellsOf, pairsOf, xI_nil, binBool, gcE, evOpt, tagZ, xI_block, xI_loopH, xI_condM, xI_exitM, xI_skip, xI_blk, exitA, ty2, h1, h1', h0, h00, c1, h2, h2', w3, w4]

theorem c67 (l : List Nat) (hl : ∀ x ∈ l, x < 256) (hll : l.length ≤ 1000) (k m : Nat) (hk : k ≤ 999000) (n : Nat) (hn : n ≤ 1000000) (σ : St) (s : Nat) (h : SRC σ s l k m) :
    ∃ (r : Bool) (k' m' : Nat) (σ' : St), callI TT 67 [.ptr s 0, .int .i64 n] σ = some (.bool r, σ') ∧ SRC σ' s l k' m' ∧ k' ≤ k + 2 ∧ σ'.n = σ.n ∧ ∀ c, c ≠ s → σ'.get c = σ.get c := by
  obtain ⟨r, k', m', σ', c1, _, s1, hk', hn', hc⟩ := c66 l hl hll k m hk n hn σ s h
  refine ⟨decide (r = 0), k', m', σ', ?_, s1, hk', hn', hc⟩
  rw [cI_0 fn67 rfl md67, fi67]
  simp [xI_seq, xI_region, xI_ret, regA, regOps, runOps, opStep, wantedA, opA, evo, evos, calleeA, lk, nif_eq, putE, paramsE, valS, val2, keepE, restrict, finA, resA, binA, binInt, ofConst, ofConst1, loadA, TK.isAgg, asVar, unA, builtinA, lenOpA, lenA, ileb_cast, ileb_eq, ieqb_dec, indexAddrA, inB_dec, evPairs, storeA, AV.cellsOf, pairsOf, xI_nil, binBool, gcE, evOpt, tagZ, xI_block, xI_loopH, xI_condM, xI_exitM, xI_skip, xI_blk, exitA, ty2, c1]

theorem c65 (l : List Nat) (σ : St) : ∃ σ', callI TT 65 [.lst l.length (byts l)] σ = some (.ptr σ.n 0, σ') ∧ SRC σ' σ.n l 0 0 ∧ σ'.n = σ.n + 1 ∧ Old σ σ' := by
  refine ⟨σ.push ⟨[.lst l.length (byts l), .int .i64 0, .int .u64 0], 3, false⟩, ?_, ⟨Nat.lt_succ_self _, get_push_same, by decide⟩, rfl, Old.push⟩
  rw [cI_0 fn65 rfl md65, fi65]
  simp [xI_seq, xI_region, xI_ret, regA, regOps, runOps, opStep, wantedA, opA, evo, evos, calleeA, lk, nif_eq, putE, paramsE, valS, val2, keepE, restrict, finA, resA, binA, binInt, ofConst, ofConst1, loadA, TK.isAgg, asVar, unA, builtinA, lenOpA, lenA, ileb_cast, ileb_eq, ieqb_dec, indexAddrA, inB_dec, evPairs, storeA, AV.cellsOf, pairsOf, xI_nil, binBool, gcE, evOpt, tagZ, xI_block, xI_loopH, xI_condM, xI_exitM, xI_skip, xI_blk, exitA, ty143, allOne, AV.one, buildA, sizesOf, fillA, putCells, ty3, ty32, ty141, ty143]

theorem v23 (l : List Nat) (hl : ∀ x ∈ l, x < 256) (hll : l.length ≤ 1000) (k : Nat) (hk : k ≤ 100000) (n : Nat) (hn : n ≤ 1000000000) : ∃ r : Nat, r < max 1 n ∧ FnV TT 23 [.lst l.length (byts l), .int .i64 k, .int .i64 n] (.int .i64 r) := by
  by_cases h1 : n ≤ 1
  · have h1' : (n : Int) ≤ 1 := by omega
    refine ⟨0, by omega, FnV.mk fn23 rfl md23 ⟨⟨[], 0⟩, ?_⟩ (fun _ => rfl) rfl⟩
    rw [fi23]
    simp [xI_seq, xI_region, xI_ret, regA, regOps, runOps, opStep, wantedA, opA, evo, evos, calleeA, lk, nif_eq, putE, paramsE, valS, val2, keepE, restrict, finA, resA, binA, binInt, ofConst, ofConst1, loadA, TK.isAgg, asVar, unA, builtinA, lenOpA, lenA, ileb_cast, ileb_eq, ieqb_dec, indexAddrA, inB_dec, evPairs, storeA, AV.cellsOf, pairsOf, xI_nil, binBool, gcE, evOpt, tagZ, xI_block, xI_loopH, xI_condM, xI_exitM, xI_skip, xI_blk, exitA, ty2, ty5, ty32, h1, h1']
  · have h1' : ¬ (n : Int) ≤ 1 := by omega
    by_cases h2 : l.length ≤ k
    · refine ⟨0, by omega, FnV.mk fn23 rfl md23 ⟨⟨[], 0⟩, ?_⟩ (fun _ => rfl) rfl⟩
      rw [fi23]
      simp [xI_seq, xI_region, xI_ret, regA, regOps, runOps, opStep, wantedA, opA, evo, evos, calleeA, lk, nif_eq, putE, paramsE, valS, val2, keepE, restrict, finA, resA, binA, binInt, ofConst, ofConst1, loadA, TK.isAgg, asVar, unA, builtinA, lenOpA, lenA, ileb_cast, ileb_eq, ieqb_dec, indexAddrA, inB_dec, evPairs, storeA, AV.cellsOf, pairsOf, xI_nil, binBool, gcE, evOpt, tagZ, xI_block, xI_loopH, xI_condM, xI_exitM, xI_skip, xI_blk, exitA, ty2, ty5, ty32, h1, h1', h2]
    · have h2' : k < l.length := by omega
      obtain ⟨b, hb⟩ : ∃ b, l[k]? = some b := ⟨l[k], List.getElem?_eq_getElem h2'⟩
      have hb2 : b < 256 := hl b (List.mem_of_getElem? hb)
      have kb : ∀ σ, cellsAt σ (.lp (byts l) k) 1 = some [.int .u8 b] := fun σ => getCells_byt hb
      have u1 : wrapA .i64 (b : Int) = b := n_wrap (by omega)
      have h0 : ¬ (n : Int) = 0 := by omega
      have h00 : ¬ n = 0 := by omega
      have w3 : (b : Int).tmod (n : Int) = ((modN b n : Nat) : Int) := rfl
      have w4 : (b : Int) % (n : Int) = ((modN b n : Nat) : Int) := rfl
      have w5 : modN b n < n := Nat.mod_lt _ (by omega)
      refine ⟨modN b n, by omega, FnV.mk fn23 rfl md23 ⟨⟨[], 0⟩, ?_⟩ (fun _ => rfl) rfl⟩
      rw [fi23]
      simp [xI_seq, xI_region, xI_ret, regA, regOps, runOps, opStep, wantedA, opA, evo, evos, calleeA, lk, nif_eq, putE, paramsE, valS, val2, keepE, restrict, finA, resA, binA, binInt, ofConst, ofConst1, loadA, TK.isAgg, asVar, unA, builtinA, lenOpA, lenA, ileb_cast, ileb_eq, ieqb_dec, indexAddrA, inB_dec, evPairs, storeA, AV.cellsOf, pairsOf, xI_nil, binBool, gcE, evOpt, tagZ, xI_block, xI_loopH, xI_condM, xI_exitM, xI_skip, xI_blk, exitA, ty2, ty5, ty32, h1, h1', h2, h2', kb, u1, h0, h00, w3, w4, convA, ty5]

theorem v18 (a b : List Nat) : FnV TT 18 [.lst a.length (byts a), .lst b.length (byts b)] (.bool (decide (48 < a.length) || decide (48 < b.length))) := by
  refine FnV.mk fn18 rfl md18 ⟨⟨[], 0⟩, ?_⟩ (fun _ => rfl) rfl
  rw [fi18]
  by_cases h1 : 48 < a.length
  · have h1' : (48 : Int) < a.length := by omega
    have h1'' : ¬ (a.length : Int) ≤ 48 := by omega
    simp [xI_seq, xI_region, xI_ret, regA, regOps, runOps, opStep, wantedA, opA, evo, evos, calleeA, lk, nif_eq, putE, paramsE, valS, val2, keepE, restrict, finA, resA, binA, binInt, ofConst, ofConst1, loadA, TK.isAgg, asVar, unA, builtinA, lenOpA, lenA, ileb_cast, ileb_eq, ieqb_dec, indexAddrA, inB_dec, evPairs, storeA, AV.cellsOf, pairsOf, xI_nil, binBool, gcE, evOpt, tagZ, xI_block, xI_loopH, xI_condM, xI_exitM, xI_skip, xI_blk, exitA, ty3, ty5, ty32, h1, h1', h1'']
  · have h1' : ¬ (48 : Int) < a.length := by omega
    have h1'' : (a.length : Int) ≤ 48 := by omega
    by_cases h2 : 48 < b.length
    · have h2' : (48 : Int) < b.length := by omega
      have h2'' : ¬ (b.length : Int) ≤ 48 := by omega
      simp [xI_seq, xI_region, xI_ret, regA, regOps, runOps, opStep, wantedA, opA, evo, evos, calleeA, lk, nif_eq, putE, paramsE, valS, val2, keepE, restrict, finA, resA, binA, binInt, ofConst, ofConst1, loadA, TK.isAgg, asVar, unA, builtinA, lenOpA, lenA, ileb_cast, ileb_eq, ieqb_dec, indexAddrA, inB_dec, evPairs, storeA, AV.cellsOf, pairsOf, xI_nil, binBool, gcE, evOpt, tagZ, xI_block, xI_loopH, xI_condM, xI_exitM, xI_skip, xI_blk, exitA, ty3, ty5, ty32, h1, h1', h1'', h2, h2', h2'']
    · have h2' : ¬ (48 : Int) < b.length := by omega
      have h2'' : (b.length : Int) ≤ 48 := by omega
      simp [xI_seq, xI_region, xI_ret, regA, regOps, runOps, opStep, wantedA, opA, evo, evos, calleeA, lk, nif_eq, putE, paramsE, valS, val2, keepE, restrict, finA, resA, binA, binInt, ofConst, ofConst1, loadA, TK.isAgg, asVar, unA, builtinA, lenOpA, lenA, ileb_cast, ileb_eq, ieqb_dec, indexAddrA, inB_dec, evPairs, storeA, AV.cellsOf, pairsOf, xI_nil, binBool, gcE, evOpt, tagZ, xI_block, xI_loopH, xI_condM, xI_exitM, xI_skip, xI_blk, exitA, ty3, ty5, ty32, h1, h1', h1'', h2, h2', h2'']

open Go.Wd
theorem SRC.keep {σ σ' : St} {s : Nat} {l : List Nat} {k m : Nat} (h : SRC σ s l k m) (hn : σ.n ≤ σ'.n) (e : σ'.get s = σ.get s) : SRC σ' s l k m := ⟨Nat.lt_of_lt_of_le h.1 hn, by rw [e]; exact h.2.1, h.2.2⟩
def RGB (σ : St) (D : Nat) (a b : Int) : Prop := σ.get D = some ⟨[.int .i64 a, .int .i64 b], 2, false⟩
theorem RGB.keep {σ σ' : St} {D : Nat} {a b : Int} (h : RGB σ D a b) (e : σ'.get D = σ.get D) : RGB σ' D a b := by unfold RGB; rw [e]; exact h
theorem RGB.c0 {σ : St} {D : Nat} {a b : Int} (h : RGB σ D a b) : cellsAt σ (.ptr D 0) 1 = some [.int .i64 a] := by simp [cellsAt, (show σ.get D = _ from h), getCells, takeN, dropN]
theorem RGB.cc {σ : St} {D : Nat} {a b : Int} (h : RGB σ D a b) : cellsAt σ (.ptr D 0) 2 = some [.int .i64 a, .int .i64 b] := by simp [cellsAt, (show σ.get D = _ from h), getCells, takeN, dropN]
theorem RGB.s1 {σ : St} {D : Nat} {a b : Int} (h : RGB σ D a b) (y : Int) : ∃ σ', storeCellsA σ D 1 [.int .i64 y] = some σ' ∧ RGB σ' D a y ∧ σ'.n = σ.n ∧ ∀ d, d ≠ D → σ'.get d = σ.get d := by
  refine ⟨σ.set D ⟨[.int .i64 a, .int .i64 y], 2, false⟩, ?_, get_set_eq h, rfl, fun d hd => get_set_ne (fun e => hd e.symm)⟩
  simp [storeCellsA, (show σ.get D = _ from h), putN, overN, allOne, AV.one]
theorem RGB.s2 {σ : St} {D : Nat} {a b : Int} (h : RGB σ D a b) (x y : Int) : ∃ σ', storeCellsA σ D 0 [.int .i64 x, .int .i64 y] = some σ' ∧ RGB σ' D x y ∧ σ'.n = σ.n ∧ ∀ d, d ≠ D → σ'.get d = σ.get d := by
  refine ⟨σ.set D ⟨[.int .i64 x, .int .i64 y], 2, false⟩, ?_, get_set_eq h, rfl, fun d hd => get_set_ne (fun e => hd e.symm)⟩
  simp [storeCellsA, (show σ.get D = _ from h), putN, overN, allOne, AV.one]

end Go.Proofs.YthkdbkjkccogfaaDoor
