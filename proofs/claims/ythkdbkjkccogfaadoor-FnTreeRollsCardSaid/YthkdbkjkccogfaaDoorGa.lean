/- Rows of bytes; strings.Builder. Nothing is claimed here; no condition. -/
import Derived.Test.YthkdbkjkccogfaaDoorHd
import Derived.Test.YthkdbkjkccogfaaDoorAbsZ
import Derived.Test.YthkdbkjkccogfaaDoorWx
namespace Go.Proofs.YthkdbkjkccogfaaDoor
open Go Go.Abs
set_option linter.unusedSimpArgs false
set_option linter.unusedVariables false
open Go.Abs
/-- A row of bytes that a slice shows whole. -/
def BRow (σ : St) (b : Nat) (l : List UInt8) : Prop := ∃ z o, σ.get b = some ⟨intsOf l, z, o⟩ ∧ ((z = 1 ∧ o = false) ∨ z = tagOf 5 1) ∧ b < σ.n
theorem BRow.push (σ : St) (l : List UInt8) : BRow (σ.push ⟨intsOf l, 1, false⟩) σ.n l := ⟨1, false, get_push_same, .inl ⟨rfl, rfl⟩, Nat.lt_succ_self _⟩
theorem BRow.lt {σ : St} {b : Nat} {l : List UInt8} (h : BRow σ b l) : b < σ.n := by obtain ⟨_, _, _, _, h⟩ := h; exact h
theorem BRow.keep {σ σ' : St} {b : Nat} {l : List UInt8} (h : BRow σ b l) (hn : σ.n ≤ σ'.n) (he : σ'.get b = σ.get b) : BRow σ' b l := by
  obtain ⟨z, o, h1, h2, h3⟩ := h; exact ⟨z, o, by rw [he]; exact h1, h2, by omega⟩
theorem intsOf_length : ∀ l : List UInt8, (intsOf l).length = l.length
  | [] => rfl
  | _ :: r => by simp [intsOf, intsOf_length r]
theorem intsOf_append : ∀ a b : List UInt8, intsOf (a ++ b) = intsOf a ++ intsOf b
  | [], _ => rfl
  | _ :: r, b => by simp [intsOf, intsOf_append r b]
theorem bytesOf_intsOf : ∀ l : List UInt8, bytesOf (intsOf l) = some l
  | [] => rfl
  | x :: r => by simp [intsOf, bytesOf, bytesOf_intsOf r]
theorem getCells_intsOf {l : List UInt8} {n : Nat} (h : n = l.length) : getCells (intsOf l) 0 n = some (intsOf l) := by
  subst h
  rw [getCells_eq, if_pos (by simp [intsOf_length]), List.drop_zero, List.take_of_length_le (by simp [intsOf_length])]
theorem allOne_intsOf : ∀ l : List UInt8, allOne (intsOf l) = true
  | [] => rfl
  | _ :: r => by simp [intsOf, allOne, AV.one, allOne_intsOf r]
theorem tag_m : tagOf 5 1 % 7000000000 = 1 := by decide
theorem bappend {T : Tab} {σ : St} {b n : Nat} {l : List UInt8} {x : UInt8} {st : TypeId} (ht : T.ty st = some ⟨.slice 5, 1, 24, [.nilS]⟩) (he : T.ty 5 = some ⟨.int .u8, 1, 1, [.int .u8 0]⟩)
    (hb : BRow σ b l) (hn : n = l.length) (hs : n < 1000000000000) :
    ∃ σ', appendA T (σ.push ⟨[.int .u8 x.toNat], 1, false⟩) st st (.sl b 0 n n) (.sl σ.n 0 1 1) = some (.sl (σ.n + 1) 0 (n + 1) (n + 1), σ') ∧ BRow σ' (σ.n + 1) (l ++ [x]) ∧ σ'.n = σ.n + 2 ∧ (∃ o, σ'.get (σ.n + 1) = some ⟨intsOf (l ++ [x]), tagOf 5 1, o⟩) ∧ ∀ c, c ≠ b → c < σ.n → σ'.get c = σ.get c := by
  obtain ⟨z, o, hg0, hz, hbn⟩ := hb
  have hg : (σ.push ⟨[.int .u8 x.toNat], 1, false⟩).get b = some ⟨intsOf l, z, o⟩ := by rw [get_push_lt hbn]; exact hg0
  have h1 : firstA (σ.push ⟨[.int .u8 x.toNat], 1, false⟩) 1 1 (.sl σ.n 0 1 1) = some [.int .u8 x.toNat] := by
    simp [firstA, get_push_same, getCells, dropN, takeN]
  have hm : z % 7000000000 = 1 := by
    rcases hz with ⟨rfl, _⟩ | rfl
    · rfl
    · exact tag_m
  have hgr : growE ⟨.int .u8, 1, 1, [.int .u8 0]⟩ 5 ⟨intsOf l, z, o⟩ 0 = tagOf 5 1 := by
    unfold growE
    rcases hz with ⟨_, rfl⟩ | rfl
    · simp
    · simp
  have ha : appendA T (σ.push ⟨[.int .u8 x.toNat], 1, false⟩) st st (.sl b 0 n n) (.sl σ.n 0 1 1) =
      some (.sl (σ.n + 1) 0 (n + 1) (n + 1), (if o then (σ.push ⟨[.int .u8 x.toNat], 1, false⟩).del b else σ.push ⟨[.int .u8 x.toNat], 1, false⟩).push ⟨intsOf (l ++ [x]), tagOf 5 1, true⟩) := by
    unfold appendA
    simp only [ht, he, lenA, h1, allOne, AV.one, hg, Nat.mul_one, getCells_intsOf hn, intsOf_length]
    rw [if_neg (by simp), if_neg (by omega), if_pos ⟨by omega, by omega, hm, by omega, by omega⟩, hgr]
    cases o <;> simp [n_push, intsOf, intsOf_append]
  have hget : ∀ τ : St, τ.n = σ.n + 1 → (τ.push ⟨intsOf (l ++ [x]), tagOf 5 1, true⟩).get (σ.n + 1) = some ⟨intsOf (l ++ [x]), tagOf 5 1, true⟩ := fun τ h => by rw [← h]; exact get_push_same
  refine ⟨_, ha, ⟨tagOf 5 1, true, ?_, .inr rfl, ?_⟩, ?_, ⟨true, ?_⟩, ?_⟩
  · cases o <;> exact hget _ rfl
  · cases o <;> simp [n_push, n_del]
  · cases o <;> rfl
  · cases o <;> exact hget _ rfl
  · intro c hc hcn
    have hd : ∀ τ : St, τ.n = σ.n + 1 → (τ.push ⟨intsOf (l ++ [x]), tagOf 5 1, true⟩).get c = τ.get c := fun τ h => get_push_lt (by omega)
    cases o
    · simp only [Bool.false_eq_true, if_false]
      rw [hd _ rfl, get_push_lt hcn]
    · simp only [if_true]
      rw [hd _ rfl, get_del_ne (fun e => hc e.symm), get_push_lt hcn]
theorem bb1 (σ : St) (x : UInt8) : buildSliceA TT σ 32 1 [(0, .int .u8 x.toNat)] = some (.sl σ.n 0 1 1, σ.push ⟨[.int .u8 x.toNat], 1, false⟩) := by
  simp [buildSliceA, ty32, ty5, fillA, repeatCells, putCells, AV.cellsOf, allOne, AV.one]
theorem bb0 (σ : St) : buildSliceA TT σ 32 0 [] = some (.sl σ.n 0 0 0, σ.push ⟨intsOf [], 1, false⟩) := by
  simp [buildSliceA, ty32, ty5, fillA, repeatCells, intsOf]
theorem toStr {σ : St} {b n : Nat} {l : List UInt8} (h : BRow σ b l) (hn : n = l.length) : convA TT σ 32 9 (.sl b 0 n n) = some (.str l, σ) := by
  obtain ⟨z, o, hg, _, _⟩ := h
  simp [convA, ty32, ty9, ty5, lenA, firstA, hg, getCells_intsOf hn, bytesOf_intsOf]
/-- The letter of a bit. -/
def bb (p : Nat) : UInt8 := UInt8.ofNat (48 + p)
theorem bb_nat {p : Nat} (h : p < 2) : (bb p).toNat = 48 + p := by
  have : p = 0 ∨ p = 1 := by omega
  rcases this with rfl | rfl <;> rfl
theorem bb_conv {p : Nat} (h : p < 2) (σ : St) : convA TT σ 2 5 (.int .i64 (48 + (p : Int))) = some (.int .u8 ((bb p).toNat : Nat), σ) := by
  have : wrapA .u8 ((48 + p : Nat) : Int) = ((48 + p : Nat) : Int) := w_wrap .u8 (by simp only [topOf]; omega)
  rw [bb_nat h, ← this]
  simp [convA, ty2, ty5]
theorem bb_wrap {p : Nat} (h : p < 2) : wrapA .i64 (48 + (p : Int)) = 48 + (p : Int) := wrapA_id (by omega) (by omega)
theorem bsne (s : List UInt8) : binStr .neq s s = some (.bool false) := by simp [binStr]

/-- A builder in the heap, the row of its bytes, its bytes. -/
def Bld (σ : St) (q r : Nat) (l : List UInt8) : Prop := q < σ.n ∧ ∃ p s, σ.get q = some ⟨[p, s], tagOf 117 2, false⟩ ∧ (p = .nilP ∨ p = .ptr q 0) ∧
  ((r = q ∧ s = .nilS ∧ l = []) ∨ (r ≠ q ∧ s = .sl r 0 l.length l.length ∧ r < σ.n ∧ l ≠ [] ∧ ∃ o, σ.get r = some ⟨intsOf l, tagOf 5 1, o⟩))
theorem Bld.keep {σ σ' : St} {q r : Nat} {l : List UInt8} (h : Bld σ q r l) (hn : σ.n ≤ σ'.n) (h1 : σ'.get q = σ.get q) (h2 : σ'.get r = σ.get r) : Bld σ' q r l := by
  obtain ⟨a, p, s, b, c, d⟩ := h
  refine ⟨by omega, p, s, by rw [h1]; exact b, c, ?_⟩
  rcases d with d | ⟨d1, d2, d3, d4, o, d5⟩
  · exact .inl d
  · exact .inr ⟨d1, d2, by omega, d4, o, by rw [h2]; exact d5⟩
theorem Bld.old {σ σ' : St} {q r : Nat} {l : List UInt8} (h : Bld σ q r l) (k : Old σ σ') (hr : r < σ.n) : Bld σ' q r l := h.keep k.1 (k.2 q h.1) (k.2 r hr)
theorem Bld.rlt {σ : St} {q r : Nat} {l : List UInt8} (h : Bld σ q r l) : r < σ.n := by
  obtain ⟨a, p, s, b, c, d⟩ := h
  rcases d with ⟨d, _⟩ | ⟨_, _, d, _⟩ <;> omega
theorem Bld.new (σ : St) : Bld (σ.push ⟨[.nilP, .nilS], tagOf 117 2, false⟩) σ.n σ.n [] := ⟨Nat.lt_succ_self _, .nilP, .nilS, get_push_same, .inl rfl, .inl ⟨rfl, rfl, rfl⟩⟩
theorem callI_ext {T : Tab} {f : FuncId} {args : List AV} {σ : St} (h : T.fn f = none) : callI T f args σ = T.ext f args σ := by
  unfold callI callA; rw [h]
theorem bytesB_ints : ∀ l : List UInt8, bytesB (intsOf l) = some l
  | [] => rfl
  | x :: r => by
    have h1 : inB (x.toNat : Int) 256 = true := by rw [inB_dec]; exact decide_eq_true ⟨by omega, by have := x.toNat_lt; omega⟩
    show (bif inB (x.toNat : Int) 256 then match bytesB (intsOf r) with
      | some l => some (UInt8.ofNat (x.toNat : Int).toNat :: l)
      | none => none else none) = _
    rw [h1, bytesB_ints r]
    simp
theorem c132 {σ : St} {q r : Nat} {l : List UInt8} (h : Bld σ q r l) : ∃ σ' s, callI TT 132 [.ptr q 0] σ = some (.tup [], σ') ∧ σ'.get q = some ⟨[.ptr q 0, s], tagOf 117 2, false⟩ ∧ σ'.n = σ.n ∧ (∀ c, c ≠ q → σ'.get c = σ.get c) ∧
    ((r = q ∧ s = .nilS ∧ l = []) ∨ (r ≠ q ∧ s = .sl r 0 l.length l.length ∧ r < σ.n ∧ l ≠ [] ∧ ∃ o, σ'.get r = some ⟨intsOf l, tagOf 5 1, o⟩)) := by
  obtain ⟨a, p, s, b, c, d⟩ := h
  rcases c with rfl | rfl
  · refine ⟨σ.set q ⟨[.ptr q 0, s], tagOf 117 2, false⟩, s, ?_, get_set_eq b, rfl, fun c hc => get_set_ne (fun e => hc e.symm), ?_⟩
    · rw [callI_ext rfl]
      show extB 132 [.ptr q 0] σ = _
      simp [extB, b]
    · rcases d with d | ⟨d1, d2, d3, d4, o, d5⟩
      · exact .inl d
      · exact .inr ⟨d1, d2, d3, d4, o, by rw [get_set_ne (fun e => d1 e.symm)]; exact d5⟩
  · refine ⟨σ, s, ?_, b, rfl, fun c hc => rfl, d⟩
    rw [callI_ext rfl]
    show extB 132 [.ptr q 0] σ = _
    simp [extB, b]
theorem c92 {σ : St} {q r : Nat} {l : List UInt8} (h : Bld σ q r l) (hl : l.length ≤ 9223372036854775807) : ∃ σ', callI TT 92 [.ptr q 0] σ = some (.str l, σ') ∧ σ'.n = σ.n ∧ ∀ c, c ≠ r → σ'.get c = σ.get c := by
  obtain ⟨a, p, s, b, c, d⟩ := h
  rcases d with ⟨rfl, rfl, rfl⟩ | ⟨d1, rfl, d3, d4, o, d5⟩
  · refine ⟨σ, ?_, rfl, fun _ _ => rfl⟩
    rw [callI_ext rfl]
    show extB 92 [.ptr r 0] σ = _
    simp [extB, b]
  · refine ⟨σ.del r, ?_, rfl, fun c hc => get_del_ne (fun e => hc e.symm)⟩
    have h0 : l.length ≠ 0 := by simpa using d4
    rw [callI_ext rfl]
    show extB 92 [.ptr q 0] σ = _
    simp [extB, b, d5, getCells_intsOf rfl, bytesB_ints, d4, hl]
set_option maxHeartbeats 2000000 in
theorem k91 (q m n : Nat) (x : Int) (s : AV) (σ σ1 σ2 σ3 : St) (c1 : callI TT 132 [.ptr q 0] σ = some (.tup [], σ1)) (l1 : cellsAt σ1 (.ptr q 1) 1 = some [s]) (b1 : buildSliceA TT σ1 32 1 [(0, .int .u8 x)] = some (.sl σ1.n 0 1 1, σ2)) (a1 : appendA TT σ2 32 32 s (.sl σ1.n 0 1 1) = some (.sl m 0 n n, σ3)) (σ4 : St) (s1 : storeCellsA σ3 q 1 [.sl m 0 n n] = some σ4) :
    callI TT 91 [.ptr q 0, .int .u8 x] σ = some (.nilI, σ4) := by
  rw [cI_0 fn91 rfl md91, fi91]
  simp [xI_seq, xI_region, xI_ret, regA, regOps, runOps, opStep, wantedA, opA, evo, evos, calleeA, lk, nif_eq, putE, paramsE, valS, val2, keepE, restrict, finA, resA, binA, binInt, ofConst, ofConst1, loadA, TK.isAgg, asVar, unA, builtinA, lenOpA, lenA, ileb_cast, ileb_eq, ieqb_dec, indexAddrA, inB_dec, evPairs, storeA, AV.cellsOf, pairsOf, xI_nil, binBool, gcE, evOpt, tagZ, xI_block, xI_loopH, xI_condM, xI_exitM, xI_skip, xI_blk, exitA, ty5, ty32, ty117, runTr, pairsOk, pairOk, lstAt, lastOf, sameVal, AV.eqv, eqvs, regOps, cond_true, cond_false, fieldAddrA, ty117, ty32, ty115, c1, l1, b1, a1, s1]
theorem c91 {σ : St} {q r : Nat} {l : List UInt8} (h : Bld σ q r l) (hs : l.length < 1000000000000) (x : UInt8) : ∃ σ' r', callI TT 91 [.ptr q 0, .int .u8 x.toNat] σ = some (.nilI, σ') ∧ Bld σ' q r' (l ++ [x]) ∧ σ.n ≤ r' ∧ σ.n ≤ σ'.n ∧ ∀ c, c < σ.n → c ≠ q → c ≠ r → σ'.get c = σ.get c := by
  have hqn := h.1
  obtain ⟨σ1, s, c1, g1, n1, o1, d⟩ := c132 h
  have l1 : cellsAt σ1 (.ptr q 1) 1 = some [s] := by simp [cellsAt, g1, getCells, takeN, dropN]
  have b1 := bb1 σ1 x
  rcases d with ⟨rfl, rfl, rfl⟩ | ⟨d1, rfl, d3, d4, o, d5⟩
  · have a1 : appendA TT (σ1.push ⟨[.int .u8 x.toNat], 1, false⟩) 32 32 .nilS (.sl σ1.n 0 1 1) = some (.sl (σ1.n + 1) 0 1 1, (σ1.push ⟨[.int .u8 x.toNat], 1, false⟩).push ⟨intsOf [x], tagOf 5 1, true⟩) := by
      simp [appendA, ty32, ty5, lenA, firstA, get_push_same, getCells, dropN, takeN, allOne, AV.one, newE, n_push, intsOf]
    have g3 : ((σ1.push ⟨[.int .u8 x.toNat], 1, false⟩).push ⟨intsOf [x], tagOf 5 1, true⟩).get r = some ⟨[.ptr r 0, .nilS], tagOf 117 2, false⟩ := by
      rw [get_push_lt (by simp only [n_push]; omega), get_push_lt (by omega)]; exact g1
    have s1 : storeCellsA ((σ1.push ⟨[.int .u8 x.toNat], 1, false⟩).push ⟨intsOf [x], tagOf 5 1, true⟩) r 1 [.sl (σ1.n + 1) 0 1 1] = some (((σ1.push ⟨[.int .u8 x.toNat], 1, false⟩).push ⟨intsOf [x], tagOf 5 1, true⟩).set r ⟨[.ptr r 0, .sl (σ1.n + 1) 0 1 1], tagOf 117 2, false⟩) := by
      simp [storeCellsA, g3, allOne, AV.one, putN, overN]
    refine ⟨_, σ1.n + 1, k91 r _ _ x.toNat .nilS σ σ1 _ _ c1 l1 b1 a1 _ s1, ⟨?_, .ptr r 0, _, get_set_eq g3, .inr rfl, .inr ⟨by omega, rfl, ?_, by simp, true, ?_⟩⟩, by omega, ?_, ?_⟩
    · rw [n_set]; simp only [n_push]; omega
    · rw [n_set]; simp only [n_push]; omega
    · rw [get_set_ne (by omega)]; exact get_push_same
    · rw [n_set]; simp only [n_push]; omega
    · intro c hc hcq hcr
      rw [get_set_ne (fun e => hcq e.symm), get_push_lt (by simp only [n_push]; omega), get_push_lt (by omega), o1 c hcq]
  · have hrow : BRow σ1 r l := ⟨_, o, d5, .inr rfl, by omega⟩
    obtain ⟨σ3, a1, _, n3, ⟨o3, g3⟩, f3⟩ := bappend (x := x) ty32 ty5 hrow rfl hs
    have gq : σ3.get q = some ⟨[.ptr q 0, .sl r 0 l.length l.length], tagOf 117 2, false⟩ := (f3 q (fun e => d1 e.symm) (by omega)).trans g1
    have s1 : storeCellsA σ3 q 1 [.sl (σ1.n + 1) 0 (l.length + 1) (l.length + 1)] = some (σ3.set q ⟨[.ptr q 0, .sl (σ1.n + 1) 0 (l.length + 1) (l.length + 1)], tagOf 117 2, false⟩) := by
      simp [storeCellsA, gq, allOne, AV.one, putN, overN]
    refine ⟨_, σ1.n + 1, k91 q _ _ x.toNat _ σ σ1 _ _ c1 l1 b1 a1 _ s1, ⟨?_, .ptr q 0, _, get_set_eq gq, .inr rfl, .inr ⟨by omega, by simp, ?_, by simp, o3, ?_⟩⟩, by omega, ?_, ?_⟩
    · rw [n_set, n3]; omega
    · rw [n_set, n3]; omega
    · rw [get_set_ne (by omega)]; exact g3
    · rw [n_set, n3]; omega
    · intro c hc hcq hcr
      rw [get_set_ne (fun e => hcq e.symm), f3 c hcr (by omega), o1 c hcq]

end Go.Proofs.YthkdbkjkccogfaaDoor
