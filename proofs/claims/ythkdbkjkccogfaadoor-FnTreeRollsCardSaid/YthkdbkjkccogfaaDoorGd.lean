/- Contracts: texts of bits. Nothing is claimed here; no condition. -/
import Derived.Test.YthkdbkjkccogfaaDoorGc
namespace Go.Proofs.YthkdbkjkccogfaaDoor
open Go Go.Abs
set_option linter.unusedSimpArgs false
set_option linter.unusedVariables false
open Go.Wd
def zA : List AV := List.replicate 256 (.bool false)
theorem tyA : TT.ty 173 = some ⟨.array 256 4, 256, 256, zA⟩ := ty173
theorem tgA : tagZ 173 zA 256 = 256 := by kernel_rfl
theorem zA_len : zA.length = 256 := by rw [zA]; exact List.length_replicate

/-- Is a byte the letter of a bit? -/
def isBit (x : UInt8) : Bool := x == 48 || x == 49
def isBits (l : List UInt8) : Bool := decide (l.length ≤ 400) && l.all isBit
def setA : List AV := (List.range 256).map fun i => .bool (i == 48 || i == 49)
theorem setA_get {i : Nat} (h : i < 256) : getCells setA i 1 = some [.bool (i == 48 || i == 49)] := by
  rw [getCells_eq, if_pos (by simp [setA]; omega)]
  simp only [setA, ← List.map_drop, ← List.map_take]
  rw [List.drop_eq_getElem_cons (by simpa using h)]
  simp
theorem isBit_nat (x : UInt8) : isBit x = (x.toNat == 48 || x.toNat == 49) := by
  have h1 : (x == 48) = (x.toNat == 48) := by
    by_cases h : x = 48
    · subst h; rfl
    · have h9 : x.toNat ≠ 48 := fun e => h (UInt8.toNat_inj.1 e)
      rw [beq_false_of_ne h, beq_false_of_ne h9]
  have h2 : (x == 49) = (x.toNat == 49) := by
    by_cases h : x = 49
    · subst h; rfl
    · have h9 : x.toNat ≠ 49 := fun e => h (UInt8.toNat_inj.1 e)
      rw [beq_false_of_ne h, beq_false_of_ne h9]
  rw [isBit, h1, h2]
set_option maxRecDepth 100000 in
theorem r151 : FnV TT 151 [.str [48, 49]] (.tup [.agg setA, .bool true]) := FnV.mk fn151 rfl md151 (exI_of_exec (n := 1000) (by kernel_rfl)) (fun _ => rfl) (by kernel_rfl)

theorem c169 {σ : St} {b : Nat} {o : Bool} {z : Nat} (hb : σ.get b = some ⟨setA, z, o⟩) (x : UInt8) : callI TT 169 [.ptr b 0, .int .u8 x.toNat] σ = some (.bool (isBit x), σ) := by
  have hx := x.toNat_lt
  have h1 : x.toNat < 256 := by omega
  have h1i : (x.toNat : Int) < 256 := by omega
  have hc : cellsAt σ (.ptr b x.toNat) 1 = some [.bool (isBit x)] := by simp only [cellsAt, hb, setA_get h1, isBit_nat]
  rw [cI_0 fn169 rfl md169, fi169]
  simp [xI_seq, xI_region, xI_ret, regA, regOps, runOps, opStep, wantedA, opA, evo, evos, calleeA, lk, nif_eq, putE, paramsE, valS, val2, keepE, restrict, finA, resA, binA, binInt, ofConst, ofConst1, loadA, TK.isAgg, asVar, unA, builtinA, lenOpA, lenA, ileb_cast, ileb_eq, ieqb_dec, indexAddrA, inB_dec, evPairs, storeA, AV.cellsOf, pairsOf, xI_nil, binBool, gcE, evOpt, xI_block, xI_loopH, xI_condM, xI_exitM, xI_skip, xI_blk, exitA, ty4, indexAddrA, ty4, hc, h1, h1i, tyA, tgA]
theorem takeWhile_none {l : List UInt8} : l.dropWhile isBit = [] ↔ l.all isBit = true := by
  induction l with
  | nil => simp
  | cons x l ih => cases h : isBit x <;> simp [List.dropWhile_cons, h, ih]
theorem trim_none (l : List UInt8) : (((l.reverse.dropWhile isBit).reverse).dropWhile isBit == []) = l.all isBit := by
  have key : ((l.reverse.dropWhile isBit).reverse).dropWhile isBit = [] ↔ l.all isBit = true := by
    rw [takeWhile_none]
    constructor
    · intro h
      rw [List.all_reverse] at h
      have h2 : l.reverse.dropWhile isBit = [] := by
        cases hx : l.reverse.dropWhile isBit with
        | nil => rfl
        | cons y t =>
          have hy : isBit y = false := by
            have := List.head?_dropWhile_not isBit l.reverse
            rw [hx] at this
            simpa using this
          rw [hx] at h
          simp [hy] at h
      have h3 := takeWhile_none.1 h2
      rwa [List.all_reverse] at h3
    · intro h
      have h2 : l.reverse.dropWhile isBit = [] := takeWhile_none.2 (by rwa [List.all_reverse])
      rw [h2]; rfl
  rw [Bool.eq_iff_iff, beq_iff_eq]
  exact key

noncomputable def b152 : Code := Tryd.f152.body.getD .skip
noncomputable def B152_0 : Code := (bodyC (bodyC (fstC (sndC b152))))
noncomputable def K152_0 : List It := .lp B152_0 :: .blk 0 :: .code (sndC (sndC b152)) :: []
theorem xl152_0 {fi : FI} {env : Env} {σ : St} : exI TT fi K152_0 env σ = exI TT fi (.code B152_0 :: K152_0) env σ := by unfold K152_0; exact xI_lp
noncomputable def R152_0_0 : List It := .code (sndC (sndC b152)) :: []
theorem eK152_0_0 : exitA 0 K152_0 = some R152_0_0 := rfl
theorem l152 {σ : St} {b : Nat} {o : Bool} {z : Nat} (hb : σ.get b = some ⟨setA, z, o⟩) : ∀ l : List UInt8, l.length < 1000000 → exI TT (FI.of Tryd.f152 (TT.an 152)) K152_0 [(0, .str l), (1, .ptr b 0)] σ = some (.str (l.dropWhile isBit), σ) := by
  intro l
  induction l with
  | nil =>
    intro _
    rw [fi152]
    rw [xl152_0]
    simp only [B152_0, b152, Tryd.f152, Option.getD, fstC, sndC, bodyC, thnC, elsC]
    simp [xI_seq, xI_region, xI_ret, regA, regOps, runOps, opStep, wantedA, opA, evo, evos, calleeA, lk, nif_eq, putE, paramsE, valS, val2, keepE, restrict, finA, resA, binA, binInt, ofConst, ofConst1, loadA, TK.isAgg, asVar, unA, builtinA, lenOpA, lenA, ileb_cast, ileb_eq, ieqb_dec, indexAddrA, inB_dec, evPairs, storeA, AV.cellsOf, pairsOf, xI_nil, binBool, gcE, evOpt, tagZ, xI_block, xI_loopH, xI_condM, xI_exitM, xI_skip, xI_blk, exitA, ty3, ty4, ty9, eK152_0_0, ty9]
    simp only [R152_0_0, b152, Tryd.f152, Option.getD, fstC, sndC, bodyC, thnC, elsC]
    simp [xI_seq, xI_region, xI_ret, regA, regOps, runOps, opStep, wantedA, opA, evo, evos, calleeA, lk, nif_eq, putE, paramsE, valS, val2, keepE, restrict, finA, resA, binA, binInt, ofConst, ofConst1, loadA, TK.isAgg, asVar, unA, builtinA, lenOpA, lenA, ileb_cast, ileb_eq, ieqb_dec, indexAddrA, inB_dec, evPairs, storeA, AV.cellsOf, pairsOf, xI_nil, binBool, gcE, evOpt, tagZ, xI_block, xI_loopH, xI_condM, xI_exitM, xI_skip, xI_blk, exitA, ty3, ty4, ty9, eK152_0_0, ty9]
  | cons x l ih =>
    intro hl
    simp only [List.length_cons] at hl
    have hc := c169 hb x
    have hbd : (1 : Int) ≤ (l.length : Int) + 1 := by omega
    cases hx : isBit x with
    | false =>
      rw [hx] at hc
      rw [List.dropWhile_cons, if_neg (by simp [hx])]
      rw [fi152]
      rw [xl152_0]
      simp only [B152_0, b152, Tryd.f152, Option.getD, fstC, sndC, bodyC, thnC, elsC]
      simp [xI_seq, xI_region, xI_ret, regA, regOps, runOps, opStep, wantedA, opA, evo, evos, calleeA, lk, nif_eq, putE, paramsE, valS, val2, keepE, restrict, finA, resA, binA, binInt, ofConst, ofConst1, loadA, TK.isAgg, asVar, unA, builtinA, lenOpA, lenA, ileb_cast, ileb_eq, ieqb_dec, indexAddrA, inB_dec, evPairs, storeA, AV.cellsOf, pairsOf, xI_nil, binBool, gcE, evOpt, tagZ, xI_block, xI_loopH, xI_condM, xI_exitM, xI_skip, xI_blk, exitA, ty3, ty4, ty9, eK152_0_0, ty9, indexA, sliceA, boundA, hc, hbd]
      simp only [R152_0_0, b152, Tryd.f152, Option.getD, fstC, sndC, bodyC, thnC, elsC]
      simp [xI_seq, xI_region, xI_ret, regA, regOps, runOps, opStep, wantedA, opA, evo, evos, calleeA, lk, nif_eq, putE, paramsE, valS, val2, keepE, restrict, finA, resA, binA, binInt, ofConst, ofConst1, loadA, TK.isAgg, asVar, unA, builtinA, lenOpA, lenA, ileb_cast, ileb_eq, ieqb_dec, indexAddrA, inB_dec, evPairs, storeA, AV.cellsOf, pairsOf, xI_nil, binBool, gcE, evOpt, tagZ, xI_block, xI_loopH, xI_condM, xI_exitM, xI_skip, xI_blk, exitA, ty3, ty4, ty9, eK152_0_0, ty9, indexA, sliceA, boundA, hc, hbd]
    | true =>
      rw [hx] at hc
      have h1 := ih (by omega)
      rw [List.dropWhile_cons, if_pos hx]
      rw [fi152] at h1 ⊢
      rw [xl152_0]
      simp only [B152_0, b152, Tryd.f152, Option.getD, fstC, sndC, bodyC, thnC, elsC]
      simp [xI_seq, xI_region, xI_ret, regA, regOps, runOps, opStep, wantedA, opA, evo, evos, calleeA, lk, nif_eq, putE, paramsE, valS, val2, keepE, restrict, finA, resA, binA, binInt, ofConst, ofConst1, loadA, TK.isAgg, asVar, unA, builtinA, lenOpA, lenA, ileb_cast, ileb_eq, ieqb_dec, indexAddrA, inB_dec, evPairs, storeA, AV.cellsOf, pairsOf, xI_nil, binBool, gcE, evOpt, tagZ, xI_block, xI_loopH, xI_condM, xI_exitM, xI_skip, xI_blk, exitA, ty3, ty4, ty9, eK152_0_0, ty9, indexA, sliceA, boundA, hc, hbd]
      exact h1
theorem c152 {σ : St} {b : Nat} {o : Bool} {z : Nat} (hb : σ.get b = some ⟨setA, z, o⟩) (l : List UInt8) (hl : l.length < 1000000) : callI TT 152 [.str l, .ptr b 0] σ = some (.str (l.dropWhile isBit), σ) := by
  have h1 := l152 hb l hl
  rw [cI_0 fn152 rfl md152, fi152]
  rw [fi152] at h1
  simp [xI_seq, xI_region, xI_ret, regA, regOps, runOps, opStep, wantedA, opA, evo, evos, calleeA, lk, nif_eq, putE, paramsE, valS, val2, keepE, restrict, finA, resA, binA, binInt, ofConst, ofConst1, loadA, TK.isAgg, asVar, unA, builtinA, lenOpA, lenA, ileb_cast, ileb_eq, ieqb_dec, indexAddrA, inB_dec, evPairs, storeA, AV.cellsOf, pairsOf, xI_nil, binBool, gcE, evOpt, tagZ, xI_block, xI_loopH, xI_condM, xI_exitM, xI_skip, xI_blk, exitA, ty3, ty4, ty9, eK152_0_0]
  exact h1

noncomputable def b153 : Code := Tryd.f153.body.getD .skip
noncomputable def B153_0 : Code := (bodyC (bodyC (fstC (sndC b153))))
noncomputable def K153_0 : List It := .lp B153_0 :: .blk 0 :: .code (sndC (sndC b153)) :: []
theorem xl153_0 {fi : FI} {env : Env} {σ : St} : exI TT fi K153_0 env σ = exI TT fi (.code B153_0 :: K153_0) env σ := by unfold K153_0; exact xI_lp
noncomputable def R153_0_0 : List It := .code (sndC (sndC b153)) :: []
theorem eK153_0_0 : exitA 0 K153_0 = some R153_0_0 := rfl
theorem l153 {σ : St} {b : Nat} {o : Bool} {z : Nat} (hb : σ.get b = some ⟨setA, z, o⟩) : ∀ r : List UInt8, r.length < 1000000 → exI TT (FI.of Tryd.f153 (TT.an 153)) K153_0 [(0, .str r.reverse), (1, .ptr b 0)] σ = some (.str (r.dropWhile isBit).reverse, σ) := by
  intro r
  induction r with
  | nil =>
    intro _
    rw [fi153]
    rw [xl153_0]
    simp only [B153_0, b153, Tryd.f153, Option.getD, fstC, sndC, bodyC, thnC, elsC]
    simp [xI_seq, xI_region, xI_ret, regA, regOps, runOps, opStep, wantedA, opA, evo, evos, calleeA, lk, nif_eq, putE, paramsE, valS, val2, keepE, restrict, finA, resA, binA, binInt, ofConst, ofConst1, loadA, TK.isAgg, asVar, unA, builtinA, lenOpA, lenA, ileb_cast, ileb_eq, ieqb_dec, indexAddrA, inB_dec, evPairs, storeA, AV.cellsOf, pairsOf, xI_nil, binBool, gcE, evOpt, tagZ, xI_block, xI_loopH, xI_condM, xI_exitM, xI_skip, xI_blk, exitA, ty3, ty4, ty9, eK153_0_0, ty9]
    simp only [R153_0_0, b153, Tryd.f153, Option.getD, fstC, sndC, bodyC, thnC, elsC]
    simp [xI_seq, xI_region, xI_ret, regA, regOps, runOps, opStep, wantedA, opA, evo, evos, calleeA, lk, nif_eq, putE, paramsE, valS, val2, keepE, restrict, finA, resA, binA, binInt, ofConst, ofConst1, loadA, TK.isAgg, asVar, unA, builtinA, lenOpA, lenA, ileb_cast, ileb_eq, ieqb_dec, indexAddrA, inB_dec, evPairs, storeA, AV.cellsOf, pairsOf, xI_nil, binBool, gcE, evOpt, tagZ, xI_block, xI_loopH, xI_condM, xI_exitM, xI_skip, xI_blk, exitA, ty3, ty4, ty9, eK153_0_0, ty9]
  | cons x r ih =>
    intro hl
    simp only [List.length_cons] at hl
    have hc := c169 hb x
    have hw : wrapA .i64 (((r.length : Nat) : Int) + 1 - 1) = ((r.length : Nat) : Int) := by rw [wrapA_id (by omega) (by omega)]; omega
    have hw2 : wrapA .i64 ((r.length : Nat) : Int) = ((r.length : Nat) : Int) := wrapA_id (by omega) (by omega)
    have hbd : ((r.length : Nat) : Int) ≤ (r.length : Int) + 1 := by omega
    have hn : ¬ ((r.length : Int) + 1 ≤ 0) := by omega
    have hget : (r.reverse ++ [x])[r.length]? = some x := by rw [List.getElem?_append_right (by simp)]; simp
    have htk : (r.reverse ++ [x]).take r.length = r.reverse := by rw [List.take_append_of_le_length (by simp)]; exact List.take_of_length_le (by simp)
    cases hx : isBit x with
    | false =>
      rw [hx] at hc
      rw [List.dropWhile_cons, if_neg (by simp [hx]), List.reverse_cons]
      rw [fi153]
      rw [xl153_0]
      simp only [B153_0, b153, Tryd.f153, Option.getD, fstC, sndC, bodyC, thnC, elsC]
      simp [xI_seq, xI_region, xI_ret, regA, regOps, runOps, opStep, wantedA, opA, evo, evos, calleeA, lk, nif_eq, putE, paramsE, valS, val2, keepE, restrict, finA, resA, binA, binInt, ofConst, ofConst1, loadA, TK.isAgg, asVar, unA, builtinA, lenOpA, lenA, ileb_cast, ileb_eq, ieqb_dec, indexAddrA, inB_dec, evPairs, storeA, AV.cellsOf, pairsOf, xI_nil, binBool, gcE, evOpt, tagZ, xI_block, xI_loopH, xI_condM, xI_exitM, xI_skip, xI_blk, exitA, ty3, ty4, ty9, eK153_0_0, ty9, indexA, sliceA, boundA, hc, hw, hw2, hn, hget, htk, hbd]
      simp only [R153_0_0, b153, Tryd.f153, Option.getD, fstC, sndC, bodyC, thnC, elsC]
      simp [xI_seq, xI_region, xI_ret, regA, regOps, runOps, opStep, wantedA, opA, evo, evos, calleeA, lk, nif_eq, putE, paramsE, valS, val2, keepE, restrict, finA, resA, binA, binInt, ofConst, ofConst1, loadA, TK.isAgg, asVar, unA, builtinA, lenOpA, lenA, ileb_cast, ileb_eq, ieqb_dec, indexAddrA, inB_dec, evPairs, storeA, AV.cellsOf, pairsOf, xI_nil, binBool, gcE, evOpt, tagZ, xI_block, xI_loopH, xI_condM, xI_exitM, xI_skip, xI_blk, exitA, ty3, ty4, ty9, eK153_0_0, ty9, indexA, sliceA, boundA, hc, hw, hw2, hn, hget, htk, hbd]
    | true =>
      rw [hx] at hc
      have h1 := ih (by omega)
      rw [List.dropWhile_cons, if_pos hx, List.reverse_cons]
      rw [fi153] at h1 ⊢
      rw [xl153_0]
      simp only [B153_0, b153, Tryd.f153, Option.getD, fstC, sndC, bodyC, thnC, elsC]
      simp [xI_seq, xI_region, xI_ret, regA, regOps, runOps, opStep, wantedA, opA, evo, evos, calleeA, lk, nif_eq, putE, paramsE, valS, val2, keepE, restrict, finA, resA, binA, binInt, ofConst, ofConst1, loadA, TK.isAgg, asVar, unA, builtinA, lenOpA, lenA, ileb_cast, ileb_eq, ieqb_dec, indexAddrA, inB_dec, evPairs, storeA, AV.cellsOf, pairsOf, xI_nil, binBool, gcE, evOpt, tagZ, xI_block, xI_loopH, xI_condM, xI_exitM, xI_skip, xI_blk, exitA, ty3, ty4, ty9, eK153_0_0, ty9, indexA, sliceA, boundA, hc, hw, hw2, hn, hget, htk, hbd]
      exact h1
theorem c153 {σ : St} {b : Nat} {o : Bool} {z : Nat} (hb : σ.get b = some ⟨setA, z, o⟩) (l : List UInt8) (hl : l.length < 1000000) : callI TT 153 [.str l, .ptr b 0] σ = some (.str (l.reverse.dropWhile isBit).reverse, σ) := by
  have h1 := l153 hb l.reverse (by simpa using hl)
  rw [List.reverse_reverse] at h1
  rw [cI_0 fn153 rfl md153, fi153]
  rw [fi153] at h1
  simp [xI_seq, xI_region, xI_ret, regA, regOps, runOps, opStep, wantedA, opA, evo, evos, calleeA, lk, nif_eq, putE, paramsE, valS, val2, keepE, restrict, finA, resA, binA, binInt, ofConst, ofConst1, loadA, TK.isAgg, asVar, unA, builtinA, lenOpA, lenA, ileb_cast, ileb_eq, ieqb_dec, indexAddrA, inB_dec, evPairs, storeA, AV.cellsOf, pairsOf, xI_nil, binBool, gcE, evOpt, tagZ, xI_block, xI_loopH, xI_condM, xI_exitM, xI_skip, xI_blk, exitA, ty3, ty4, ty9, eK153_0_0]
  exact h1

theorem setA_one : allOne setA = true := by kernel_rfl
theorem setA_len : setA.length = 256 := by simp [setA]
theorem k113 (l r : List UInt8) (z0 : List AV) (σ1 : St) (hl : ¬ l = []) (c1 : ∀ σ, callI TT 151 [.str [48, 49]] σ = some (.tup [.agg setA, .bool true], σ)) (s1 : storeCellsA ((⟨[], 0⟩ : St).push ⟨zA, 256, false⟩) 0 0 setA = some σ1) (c2 : callI TT 153 [.str l, .ptr 0 0] σ1 = some (.str r, σ1)) (r2 : List UInt8) (c3 : callI TT 152 [.str r, .ptr 0 0] σ1 = some (.str r2, σ1)) :
    exI TT (FI.of Tryd.f113 (TT.an 113)) [.code (Tryd.f113.body.getD .skip)] (paramsE 0 [.str l, .str [48, 49]]) ⟨[], 0⟩ = some (.str r2, σ1) := by
  have hz : (l == ([] : List UInt8)) = false := by simpa using hl
  have hlen := setA_len
  rw [fi113]
  simp only [Tryd.f113, Option.getD]
  simp [xI_seq, xI_region, xI_ret, regA, regOps, runOps, opStep, wantedA, opA, evo, evos, calleeA, lk, nif_eq, putE, paramsE, valS, val2, keepE, restrict, finA, resA, binA, binInt, ofConst, ofConst1, loadA, TK.isAgg, asVar, unA, builtinA, lenOpA, lenA, ileb_cast, ileb_eq, ieqb_dec, indexAddrA, inB_dec, evPairs, storeA, AV.cellsOf, pairsOf, xI_nil, binBool, gcE, evOpt, xI_block, xI_loopH, xI_condM, xI_exitM, xI_skip, xI_blk, exitA, ty3, ty5, ty9, runTr, pairsOk, pairOk, lstAt, lastOf, sameVal, AV.eqv, eqvs, eqvs_ints, regOps, blt_dec, cond_true, cond_false, allOne, AV.one, n_push, ty9, ty4, binStr, indexA, hz, hl, hlen, c1, s1, c2, c3, tyA, tgA]
theorem k113n : exI TT (FI.of Tryd.f113 (TT.an 113)) [.code (Tryd.f113.body.getD .skip)] (paramsE 0 [.str [], .str [48, 49]]) ⟨[], 0⟩ = some (.str [], ⟨[], 0⟩) := by
  rw [fi113]
  simp only [Tryd.f113, Option.getD]
  simp [xI_seq, xI_region, xI_ret, regA, regOps, runOps, opStep, wantedA, opA, evo, evos, calleeA, lk, nif_eq, putE, paramsE, valS, val2, keepE, restrict, finA, resA, binA, binInt, ofConst, ofConst1, loadA, TK.isAgg, asVar, unA, builtinA, lenOpA, lenA, ileb_cast, ileb_eq, ieqb_dec, indexAddrA, inB_dec, evPairs, storeA, AV.cellsOf, pairsOf, xI_nil, binBool, gcE, evOpt, xI_block, xI_loopH, xI_condM, xI_exitM, xI_skip, xI_blk, exitA, ty3, ty5, ty9, runTr, pairsOk, pairOk, lstAt, lastOf, sameVal, AV.eqv, eqvs, eqvs_ints, regOps, blt_dec, cond_true, cond_false, ty9, binStr, tyA, tgA]
theorem v113 (l : List UInt8) (hl : l.length < 1000000) : FnV TT 113 [.str l, .str [48, 49]] (.str (((l.reverse.dropWhile isBit).reverse).dropWhile isBit)) := by
  by_cases h0 : l = []
  · subst h0
    exact FnV.mk (c := Tryd.f113.body.getD .skip) fn113 rfl md113 ⟨⟨[], 0⟩, k113n⟩ (fun _ => rfl) rfl
  · have hg0 : ((⟨[], 0⟩ : St).push ⟨zA, 256, false⟩).get 0 = some ⟨zA, 256, false⟩ := rfl
    have s1 : storeCellsA ((⟨[], 0⟩ : St).push ⟨zA, 256, false⟩) 0 0 setA = some (((⟨[], 0⟩ : St).push ⟨zA, 256, false⟩).set 0 ⟨setA, 256, false⟩) := by
      rw [storeCellsA_eq, hg0]
      simp only
      rw [if_pos ⟨by rw [setA_len, zA_len]; decide, setA_one⟩]
      have hput : putCells zA 0 setA = setA := by rw [putCells, List.take_zero, List.nil_append, List.drop_of_length_le (by rw [setA_len, zA_len]; decide), List.append_nil]
      rw [hput]
    have hg1 : (((⟨[], 0⟩ : St).push ⟨zA, 256, false⟩).set 0 ⟨setA, 256, false⟩).get 0 = some ⟨setA, 256, false⟩ := get_set_eq hg0
    have hlen2 : ((l.reverse.dropWhile isBit).reverse).length < 1000000 := by
      have := (List.dropWhile_sublist isBit (l := l.reverse)).length_le
      simp at this ⊢
      omega
    exact FnV.mk (c := Tryd.f113.body.getD .skip) fn113 rfl md113 ⟨_, k113 l _ [] _ h0 (fun σ => r151 σ _ rfl) s1 (c153 hg1 l hl) _ (c152 hg1 _ hlen2)⟩ (fun _ => rfl) rfl

theorem v63 (l : List UInt8) (hl : l.length ≤ 9223372036854775807) : FnV TT 63 [.str l] (.bool (isBits l)) := by
  refine FnV.mk fn63 rfl md63 ⟨⟨[], 0⟩, ?_⟩ (fun _ => rfl) rfl
  rw [fi63]
  by_cases h : l.length ≤ 400
  · have hc : callI TT 113 [.str l, .str [48, 49]] ⟨[], 0⟩ = some (.str (((l.reverse.dropWhile isBit).reverse).dropWhile isBit), ⟨[], 0⟩) := v113 l (by omega) _ _ rfl
    have ht := trim_none l
    have h' : (l.length : Int) ≤ 400 := by omega
    simp [xI_seq, xI_region, xI_ret, regA, regOps, runOps, opStep, wantedA, opA, evo, evos, calleeA, lk, nif_eq, putE, paramsE, valS, val2, keepE, restrict, finA, resA, binA, binInt, ofConst, ofConst1, loadA, TK.isAgg, asVar, unA, builtinA, lenOpA, lenA, ileb_cast, ileb_eq, ieqb_dec, indexAddrA, inB_dec, evPairs, storeA, AV.cellsOf, pairsOf, xI_nil, binBool, gcE, evOpt, tagZ, xI_block, xI_loopH, xI_condM, xI_exitM, xI_skip, xI_blk, exitA, ty3, ty9, ty9, binStr, hc, h, h']
    simp only [isBits, h, decide_true, Bool.true_and]
    rw [← ht]
    simp
  · have h' : ¬ (l.length : Int) ≤ 400 := by omega
    simp [xI_seq, xI_region, xI_ret, regA, regOps, runOps, opStep, wantedA, opA, evo, evos, calleeA, lk, nif_eq, putE, paramsE, valS, val2, keepE, restrict, finA, resA, binA, binInt, ofConst, ofConst1, loadA, TK.isAgg, asVar, unA, builtinA, lenOpA, lenA, ileb_cast, ileb_eq, ieqb_dec, indexAddrA, inB_dec, evPairs, storeA, AV.cellsOf, pairsOf, xI_nil, binBool, gcE, evOpt, tagZ, xI_block, xI_loopH, xI_condM, xI_exitM, xI_skip, xI_blk, exitA, ty3, ty9, ty9, binStr, h, h']
    simp [isBits, h]
theorem c63 (l : List UInt8) (hl : l.length ≤ 9223372036854775807) (σ : St) : callI TT 63 [.str l] σ = some (.bool (isBits l), σ) := v63 l hl σ _ rfl

noncomputable def b60 : Code := Tryd.f60.body.getD .skip
noncomputable def B60_0 : Code := (bodyC (bodyC (sndC (fstC (sndC b60)))))
noncomputable def K60_0 : List It := .lp B60_0 :: .blk 0 :: .code (sndC (sndC b60)) :: []
theorem xl60_0 {fi : FI} {env : Env} {σ : St} : exI TT fi K60_0 env σ = exI TT fi (.code B60_0 :: K60_0) env σ := by unfold K60_0; exact xI_lp
noncomputable def R60_0_0 : List It := .code (sndC (sndC b60)) :: []
theorem eK60_0_0 : exitA 0 K60_0 = some R60_0_0 := rfl
theorem l60 (σ : St) : ∀ (suf pre : List UInt8), (pre ++ suf).length < 1000000000 → exI TT (FI.of Tryd.f60 (TT.an 60)) K60_0 [(0, .str (pre ++ suf)), (3, .int .i64 pre.length)] σ = some (.bool (suf.all isBit && decide ((pre ++ suf).length ≤ 400)), σ) := by
  intro suf
  induction suf with
  | nil =>
    intro pre hl
    simp only [List.append_nil] at hl ⊢
    have hd : decide ((pre.length : Int) ≤ 400) = decide (pre.length ≤ 400) := by simp; omega
    rw [fi60]
    rw [xl60_0]
    simp only [B60_0, b60, Tryd.f60, Option.getD, fstC, sndC, bodyC, thnC, elsC]
    simp [xI_seq, xI_region, xI_ret, regA, regOps, runOps, opStep, wantedA, opA, evo, evos, calleeA, lk, nif_eq, putE, paramsE, valS, val2, keepE, restrict, finA, resA, binA, binInt, ofConst, ofConst1, loadA, TK.isAgg, asVar, unA, builtinA, lenOpA, lenA, ileb_cast, ileb_eq, ieqb_dec, indexAddrA, inB_dec, evPairs, storeA, AV.cellsOf, pairsOf, xI_nil, binBool, gcE, evOpt, tagZ, xI_block, xI_loopH, xI_condM, xI_exitM, xI_skip, xI_blk, exitA, ty3, ty5, ty9, eK60_0_0, ty9]
    simp only [R60_0_0, b60, Tryd.f60, Option.getD, fstC, sndC, bodyC, thnC, elsC]
    simp [xI_seq, xI_region, xI_ret, regA, regOps, runOps, opStep, wantedA, opA, evo, evos, calleeA, lk, nif_eq, putE, paramsE, valS, val2, keepE, restrict, finA, resA, binA, binInt, ofConst, ofConst1, loadA, TK.isAgg, asVar, unA, builtinA, lenOpA, lenA, ileb_cast, ileb_eq, ieqb_dec, indexAddrA, inB_dec, evPairs, storeA, AV.cellsOf, pairsOf, xI_nil, binBool, gcE, evOpt, tagZ, xI_block, xI_loopH, xI_condM, xI_exitM, xI_skip, xI_blk, exitA, ty3, ty5, ty9, eK60_0_0, ty9]
    omega
  | cons x suf ih =>
    intro pre hl
    have h1 := ih (pre ++ [x]) (by simpa using hl)
    simp only [List.append_assoc, List.singleton_append, List.length_append, List.length_singleton, List.length_cons] at h1 hl
    have hget : (pre ++ x :: suf)[pre.length]? = some x := by simp
    have hlt : (pre.length : Int) < ((pre.length : Int) + ((suf.length : Int) + 1)) := by omega
    have hle : ¬ pre.length + (suf.length + 1) ≤ pre.length := by omega
    have hw := wrapS (n := pre.length) (by omega)
    have hb := isBit_nat x
    have hx := x.toNat_lt
    by_cases h48 : x.toNat = 48
    · have hbt : isBit x = true := by rw [hb, h48]; rfl
      have h48' : (x.toNat : Int) = 48 := by omega
      rw [fi60] at h1 ⊢
      rw [xl60_0]
      simp only [B60_0, b60, Tryd.f60, Option.getD, fstC, sndC, bodyC, thnC, elsC]
      simp [xI_seq, xI_region, xI_ret, regA, regOps, runOps, opStep, wantedA, opA, evo, evos, calleeA, lk, nif_eq, putE, paramsE, valS, val2, keepE, restrict, finA, resA, binA, binInt, ofConst, ofConst1, loadA, TK.isAgg, asVar, unA, builtinA, lenOpA, lenA, ileb_cast, ileb_eq, ieqb_dec, indexAddrA, inB_dec, evPairs, storeA, AV.cellsOf, pairsOf, xI_nil, binBool, gcE, evOpt, tagZ, xI_block, xI_loopH, xI_condM, xI_exitM, xI_skip, xI_blk, exitA, ty3, ty5, ty9, eK60_0_0, ty9, indexA, hget, hlt, hle, hw, h48, h48']
      rw [hbt]
      simpa using h1
    · by_cases h49 : x.toNat = 49
      · have hbt : isBit x = true := by rw [hb, h49]; rfl
        have h49' : (x.toNat : Int) = 49 := by omega
        have h48' : ¬ (x.toNat : Int) = 48 := by omega
        rw [fi60] at h1 ⊢
        rw [xl60_0]
        simp only [B60_0, b60, Tryd.f60, Option.getD, fstC, sndC, bodyC, thnC, elsC]
        simp [xI_seq, xI_region, xI_ret, regA, regOps, runOps, opStep, wantedA, opA, evo, evos, calleeA, lk, nif_eq, putE, paramsE, valS, val2, keepE, restrict, finA, resA, binA, binInt, ofConst, ofConst1, loadA, TK.isAgg, asVar, unA, builtinA, lenOpA, lenA, ileb_cast, ileb_eq, ieqb_dec, indexAddrA, inB_dec, evPairs, storeA, AV.cellsOf, pairsOf, xI_nil, binBool, gcE, evOpt, tagZ, xI_block, xI_loopH, xI_condM, xI_exitM, xI_skip, xI_blk, exitA, ty3, ty5, ty9, eK60_0_0, ty9, indexA, hget, hlt, hle, hw, h48, h48', h49, h49']
        rw [hbt]
        simpa using h1
      · have hbt : isBit x = false := by rw [hb]; simp [h48, h49]
        have h49' : ¬ (x.toNat : Int) = 49 := by omega
        have h48' : ¬ (x.toNat : Int) = 48 := by omega
        rw [fi60]
        rw [xl60_0]
        simp only [B60_0, b60, Tryd.f60, Option.getD, fstC, sndC, bodyC, thnC, elsC]
        simp [xI_seq, xI_region, xI_ret, regA, regOps, runOps, opStep, wantedA, opA, evo, evos, calleeA, lk, nif_eq, putE, paramsE, valS, val2, keepE, restrict, finA, resA, binA, binInt, ofConst, ofConst1, loadA, TK.isAgg, asVar, unA, builtinA, lenOpA, lenA, ileb_cast, ileb_eq, ieqb_dec, indexAddrA, inB_dec, evPairs, storeA, AV.cellsOf, pairsOf, xI_nil, binBool, gcE, evOpt, tagZ, xI_block, xI_loopH, xI_condM, xI_exitM, xI_skip, xI_blk, exitA, ty3, ty5, ty9, eK60_0_0, ty9, indexA, hget, hlt, hle, hw, h48, h48', h49, h49']
        rw [hbt]
        simp
theorem v60 (l : List UInt8) (hl : l.length < 1000000000) : FnV TT 60 [.str l] (.bool (isBits l)) := by
  refine FnV.mk fn60 rfl md60 ⟨⟨[], 0⟩, ?_⟩ (fun _ => rfl) rfl
  have h := l60 ⟨[], 0⟩ l [] (by simpa using hl)
  rw [show isBits l = (l.all isBit && decide (([] ++ l).length ≤ 400)) by rw [isBits, Bool.and_comm]; rfl, ← h, fi60]
  simp [xI_seq, xI_region, xI_ret, regA, regOps, runOps, opStep, wantedA, opA, evo, evos, calleeA, lk, nif_eq, putE, paramsE, valS, val2, keepE, restrict, finA, resA, binA, binInt, ofConst, ofConst1, loadA, TK.isAgg, asVar, unA, builtinA, lenOpA, lenA, ileb_cast, ileb_eq, ieqb_dec, indexAddrA, inB_dec, evPairs, storeA, AV.cellsOf, pairsOf, xI_nil, binBool, gcE, evOpt, tagZ, xI_block, xI_loopH, xI_condM, xI_exitM, xI_skip, xI_blk, exitA, ty3, ty5, ty9, eK60_0_0]
  rfl

end Go.Proofs.YthkdbkjkccogfaaDoor
