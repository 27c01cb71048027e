/- Contracts: normal forms. Nothing is claimed here; no condition. -/
import Derived.Test.YthkdbkjkccogfaaDoorJa
import Derived.Test.YthkdbkjkccogfaaDoorXr
namespace Go.Proofs.YthkdbkjkccogfaaDoor
open Go Go.Abs
set_option linter.unusedSimpArgs false
set_option linter.unusedVariables false
open Go.Wd
/-- A text of bits. -/
def txt (N : Nat) (f : Nat → Bool) : List UInt8 := (List.range N).map fun x => bb (f x).toNat
theorem txt_length (N : Nat) (f : Nat → Bool) : (txt N f).length = N := by simp [txt]
theorem txt_get {N x : Nat} {f : Nat → Bool} (h : x < N) : (txt N f)[x]? = some (bb (f x).toNat) := by
  simp [txt, h]
theorem txt_congr {N : Nat} {f g : Nat → Bool} (h : ∀ y, y < N → f y = g y) : txt N f = txt N g := by
  apply List.map_congr_left
  intro y hy
  rw [h y (List.mem_range.1 hy)]
theorem txt_set {N x : Nat} {f g : Nat → Bool} (h : x < N) (hx : ∀ y, y < N → y ≠ x → g y = f y) : (txt N f).set x (bb (g x).toNat) = txt N g := by
  apply List.ext_getElem?
  intro i
  rw [List.getElem?_set]
  by_cases hi : i < N
  · rw [txt_get hi, txt_get hi, txt_length]
    by_cases hxi : x = i
    · subst hxi; rw [if_pos rfl, if_pos h]
    · rw [if_neg hxi, hx i hi (fun e => hxi e.symm)]
  · have e1 : (txt N f)[i]? = none := List.getElem?_eq_none (by rw [txt_length]; omega)
    have e2 : (txt N g)[i]? = none := List.getElem?_eq_none (by rw [txt_length]; omega)
    rw [e1, e2, if_neg (by omega)]
theorem txt_of {l : List UInt8} (h : l.all isBit = true) : l = txt l.length (bitf l) := by
  apply List.ext_getElem?
  intro i
  by_cases hi : i < l.length
  · rw [txt_get hi, bit_get h hi]
  · rw [List.getElem?_eq_none (by omega), List.getElem?_eq_none (by rw [txt_length]; omega)]
theorem bitf_txt {N i : Nat} {f : Nat → Bool} (h : i < N) : bitf (txt N f) i = f i := by
  rw [bitf, txt_get h]; cases f i <;> rfl
theorem txt_bits (N : Nat) (f : Nat → Bool) : (txt N f).all isBit = true := by
  rw [List.all_eq_true]
  intro x hx
  obtain ⟨i, _, rfl⟩ := List.mem_map.1 hx
  cases f i <;> rfl
theorem intsOf_map : ∀ l : List UInt8, intsOf l = l.map fun x => AV.int .u8 (x.toNat : Int)
  | [] => rfl
  | x :: r => by rw [intsOf, intsOf_map r]; rfl
theorem getCells_intsOf1 {l : List UInt8} {i : Nat} {x : UInt8} (h : l[i]? = some x) : getCells (intsOf l) i 1 = some [.int .u8 x.toNat] := by
  obtain ⟨hi, hx⟩ := List.getElem?_eq_some_iff.1 h
  rw [getCells_eq, if_pos (by rw [intsOf_length]; omega), intsOf_map, ← List.map_drop, ← List.map_take, List.drop_eq_getElem_cons hi, hx]
  rfl
theorem putN_intsOf {l : List UInt8} {i : Nat} {x : UInt8} (h : i < l.length) : putN i [.int .u8 x.toNat] (intsOf l) = some (intsOf (l.set i x)) := by
  rw [putN_eq, if_pos (by rw [intsOf_length]; simp; omega)]
  congr 1
  unfold putCells
  rw [intsOf_map, intsOf_map, List.map_set, List.set_eq_take_append_cons_drop, if_pos (by simpa using h)]
  simp
theorem and_bit (x j : Nat) : andN x (pw j) = (x.testBit j).toNat * 2 ^ j := by
  apply Nat.eq_of_testBit_eq
  intro k
  rw [bit_mul, show (andN x (pw j)).testBit k = (x.testBit k && (pw j).testBit k) from Nat.testBit_and .., show (pw j).testBit k = decide (j = k) from Nat.testBit_two_pow ..]
  by_cases h : j = k
  · subst h; simp
  · have h2 : ¬ k = j := fun e => h e.symm
    simp [h, h2]
theorem low16 : ∀ x, x < 16 → ∀ j, j < 4 → x.testBit j = true → xorN x (pw j) < x ∧ (xorN x (pw j)).testBit j = false := by decide

noncomputable def b95 : Code := Tryd.f95.body.getD .skip
noncomputable def B95_0 : Code := (bodyC (bodyC (sndC (fstC (sndC (sndC b95))))))
noncomputable def K95_0 : List It := .lp B95_0 :: .blk 0 :: .code (sndC (sndC (sndC b95))) :: []
theorem xl95_0 {fi : FI} {env : Env} {σ : St} : exI TT fi K95_0 env σ = exI TT fi (.code B95_0 :: K95_0) env σ := by unfold K95_0; exact xI_lp
noncomputable def R95_0_0 : List It := .code (sndC (sndC (sndC b95))) :: []
theorem eK95_0_0 : exitA 0 K95_0 = some R95_0_0 := rfl
noncomputable def B95_1 : Code := (bodyC (bodyC (sndC (bodyC (fstC (sndC (bodyC (bodyC (sndC (fstC (sndC (sndC b95))))))))))))
noncomputable def K95_1 : List It := .lp B95_1 :: .blk 2 :: .blk 1 :: .code (sndC (sndC (bodyC (bodyC (sndC (fstC (sndC (sndC b95)))))))) :: K95_0
theorem xl95_1 {fi : FI} {env : Env} {σ : St} : exI TT fi K95_1 env σ = exI TT fi (.code B95_1 :: K95_1) env σ := by unfold K95_1; exact xI_lp
noncomputable def R95_1_2 : List It := .blk 1 :: .code (sndC (sndC (bodyC (bodyC (sndC (fstC (sndC (sndC b95)))))))) :: K95_0
theorem eK95_1_2 : exitA 2 K95_1 = some R95_1_2 := rfl
noncomputable def R95_1_1 : List It := .code (sndC (sndC (bodyC (bodyC (sndC (fstC (sndC (sndC b95)))))))) :: K95_0
theorem eK95_1_1 : exitA 1 K95_1 = some R95_1_1 := rfl
theorem eK95_1_0 : exitA 0 K95_1 = some R95_0_0 := rfl
def half (j : Nat) (f : Nat → Bool) (x : Nat) : Nat → Bool := fun y => if y < x then pass j f y else f y
theorem l95_in (N j : Nat) (hN : N ≤ 16) (hj : j < 4) (f : Nat → Bool) (z : Nat) (o : Bool) : ∀ (m x : Nat) (σ : St), x + m = N → σ.get 0 = some ⟨intsOf (txt N (half j f x)), z, o⟩ →
    ∃ σ', exI TT (FI.of Tryd.f95 (TT.an 95)) K95_1 [(3, .sl 0 0 N N), (4, .int .i64 (pw j : Nat)), (15, .int .i64 N), (16, .int .i64 x)] σ = exI TT (FI.of Tryd.f95 (TT.an 95)) R95_1_2 [(3, .sl 0 0 N N), (4, .int .i64 (pw j : Nat)), (15, .int .i64 N), (16, .int .i64 N), (17, .bool false)] σ' ∧ σ'.get 0 = some ⟨intsOf (txt N (pass j f)), z, o⟩ := by
  have hpj : pw j ≤ 2 ^ 3 := Nat.pow_le_pow_right (by decide) (by omega)
  intro m
  induction m with
  | zero =>
    intro x σ hx hg
    obtain rfl : x = N := by omega
    refine ⟨σ, ?_, by rw [hg, txt_congr (g := pass j f) (fun y hy => by rw [half, if_pos hy])]⟩
    generalize pw j = P at *
    rw [fi95]
    conv => lhs; rw [xl95_1]
    simp only [B95_1, b95, Tryd.f95, Option.getD, fstC, sndC, bodyC, thnC, elsC]
    simp [xI_seq, xI_region, xI_ret, regA, regOps, runOps, opStep, wantedA, opA, evo, evos, calleeA, lk, nif_eq, putE, paramsE, valS, val2, keepE, restrict, finA, resA, binA, binInt, ofConst, ofConst1, loadA, TK.isAgg, asVar, unA, builtinA, lenOpA, lenA, ileb_cast, ileb_eq, ieqb_dec, indexAddrA, inB_dec, evPairs, storeA, AV.cellsOf, pairsOf, xI_nil, binBool, gcE, evOpt, tagZ, xI_block, xI_loopH, xI_condM, xI_exitM, xI_skip, xI_blk, exitA, ty3, ty5, ty9, ty32, eK95_0_0, eK95_1_2, eK95_1_1, eK95_1_0]
  | succ m ih =>
    intro x σ hx hg
    have hxN : x < N := by omega
    have hlt : (x : Int) < (N : Int) := by omega
    have hnl : ¬ (N ≤ x) := by omega
    have hw : wrapA .i64 ((x : Int) + 1) = (x : Int) + 1 := wrapA_id (by omega) (by omega)
    have s1 := n_and (a := x) (b := pw j) (by omega) (by omega)
    have hb := and_bit x j
    cases ht : x.testBit j with
    | false =>
      rw [ht] at hb
      simp only [Bool.toNat_false, Nat.zero_mul] at hb
      rw [hb] at s1
      have e : txt N (half j f x) = txt N (half j f (x + 1)) := txt_congr fun y hy => by
        simp only [half]
        by_cases h1 : y < x
        · rw [if_pos h1, if_pos (by omega)]
        · by_cases h2 : y = x
          · subst h2
            rw [if_neg h1, if_pos (by omega), pass, ht]; rfl
          · rw [if_neg h1, if_neg (by omega)]
      rw [e] at hg
      obtain ⟨σ', h1, h2⟩ := ih (x + 1) σ (by omega) hg
      refine ⟨σ', ?_, h2⟩
      rw [← h1, show ((x + 1 : Nat) : Int) = (x : Int) + 1 by omega]
      clear h1 ih
      generalize pw j = P at *
      rw [fi95]
      conv => lhs; rw [xl95_1]
      simp only [B95_1, b95, Tryd.f95, Option.getD, fstC, sndC, bodyC, thnC, elsC]
      simp [xI_seq, xI_region, xI_ret, regA, regOps, runOps, opStep, wantedA, opA, evo, evos, calleeA, lk, nif_eq, putE, paramsE, valS, val2, keepE, restrict, finA, resA, binA, binInt, ofConst, ofConst1, loadA, TK.isAgg, asVar, unA, builtinA, lenOpA, lenA, ileb_cast, ileb_eq, ieqb_dec, indexAddrA, inB_dec, evPairs, storeA, AV.cellsOf, pairsOf, xI_nil, binBool, gcE, evOpt, tagZ, xI_block, xI_loopH, xI_condM, xI_exitM, xI_skip, xI_blk, exitA, ty3, ty5, ty9, ty32, eK95_0_0, eK95_1_2, eK95_1_1, eK95_1_0, hlt, hnl, hxN, hw, s1]
    | true =>
      rw [ht] at hb
      have hne : ¬ ((andN x (pw j) : Nat) : Int) = 0 := by rw [hb, Bool.toNat_true, Nat.one_mul]; have := Nat.two_pow_pos j; omega
      obtain ⟨q1, q2⟩ := low16 x (by omega) j hj ht
      have s2 := n_xor (a := x) (b := pw j) (by omega) (by omega)
      have r1 : cellsAt σ (.ptr 0 x) 1 = some [.int .u8 (bb (f x).toNat).toNat] := by
        simp only [cellsAt, hg]
        rw [getCells_intsOf1 (txt_get hxN), half, if_neg (Nat.lt_irrefl x)]
      have r2 : cellsAt σ (.ptr 0 (xorN x (pw j))) 1 = some [.int .u8 (bb (f (xorN x (pw j))).toNat).toNat] := by
        simp only [cellsAt, hg]
        rw [getCells_intsOf1 (txt_get (by omega)), half, if_pos q1, pass, q2]; rfl
      have hx1 : ∀ a c : Bool, bitsA .xor .u8 ((bb a.toNat).toNat : Nat) ((bb c.toNat).toNat : Nat) = some (.int .u8 ((a ^^ c).toNat : Nat)) := by intro a c; cases a <;> cases c <;> rfl
      have hx2 : ∀ v : Bool, wrapA .u8 (48 + ((v.toNat : Nat) : Int)) = ((bb v.toNat).toNat : Nat) := by decide
      have hv : (f x ^^ f (xorN x (pw j))) = half j f (x + 1) x := by
        rw [half, if_pos (by omega), pass, if_pos ht]; rfl
      have hst : storeCellsA σ 0 x [.int .u8 (bb (f x ^^ f (xorN x (pw j))).toNat).toNat] = some (σ.set 0 ⟨intsOf (txt N (half j f (x + 1))), z, o⟩) := by
        unfold storeCellsA
        rw [hg]
        have hset : (txt N (half j f x)).set x (bb (half j f (x + 1) x).toNat) = txt N (half j f (x + 1)) := txt_set hxN fun y hy hyx => by
          simp only [half]
          by_cases h1 : y < x
          · rw [if_pos h1, if_pos (by omega)]
          · rw [if_neg h1, if_neg (by omega)]
        rw [hv]
        simp only [allOne, AV.one, Bool.and_self]
        rw [putN_intsOf (by rw [txt_length]; exact hxN), hset]
      obtain ⟨σ', h1, h2⟩ := ih (x + 1) (σ.set 0 ⟨intsOf (txt N (half j f (x + 1))), z, o⟩) (by omega) (get_set_eq hg)
      refine ⟨σ', ?_, h2⟩
      rw [← h1, show ((x + 1 : Nat) : Int) = (x : Int) + 1 by omega]
      clear h1 ih hg
      have hx1' := hx1 (f x) (f (xorN x (pw j)))
      have hx2' := hx2 (f x ^^ f (xorN x (pw j)))
      have hl2 : ((xorN x (pw j) : Nat) : Int) < (N : Int) := by omega
      have hl3 : xorN x (pw j) < N := by omega
      clear hx1 hx2 hb
      generalize txt N (half j f (x + 1)) = T1 at *
      generalize (bb (f x ^^ f (xorN x (pw j))).toNat).toNat = v1 at *
      generalize (f x ^^ f (xorN x (pw j))).toNat = v2 at *
      generalize (bb (f x).toNat).toNat = v3 at *
      generalize (bb (f (xorN x (pw j))).toNat).toNat = v4 at *
      generalize andN x (pw j) = A at *
      generalize xorN x (pw j) = X at *
      generalize pw j = P at *
      have hA : ¬ A = 0 := by omega
      rw [fi95]
      conv => lhs; rw [xl95_1]
      simp only [B95_1, b95, Tryd.f95, Option.getD, fstC, sndC, bodyC, thnC, elsC]
      simp [xI_seq, xI_region, xI_ret, regA, regOps, runOps, opStep, wantedA, opA, evo, evos, calleeA, lk, nif_eq, putE, paramsE, valS, val2, keepE, restrict, finA, resA, binA, binInt, ofConst, ofConst1, loadA, TK.isAgg, asVar, unA, builtinA, lenOpA, lenA, ileb_cast, ileb_eq, ieqb_dec, indexAddrA, inB_dec, evPairs, storeA, AV.cellsOf, pairsOf, xI_nil, binBool, gcE, evOpt, tagZ, xI_block, xI_loopH, xI_condM, xI_exitM, xI_skip, xI_blk, exitA, ty3, ty5, ty9, ty32, eK95_0_0, eK95_1_2, eK95_1_1, eK95_1_0, runTr, pairsOk, pairOk, lstAt, lastOf, sameVal, AV.eqv, eqvs, eqvs_ints, regOps, blt_dec, cond_true, cond_false, fieldAddrA, allOne, AV.one, buildA, sizesOf, fillA, putCells, n_push, indexA, ty2, ty27, ty9, ty5, ty3, ty36, hlt, hnl, hxN, hw, s1, s2, hne, hA, r1, r2, hx1', hx2', hst, hl2, hl3]
theorem toStrN {σ : St} {b n : Nat} {l : List UInt8} {z : Nat} {o : Bool} (hg : σ.get b = some ⟨intsOf l, z, o⟩) (hn : n = l.length) : convA TT σ 32 9 (.sl b 0 n n) = some (.str l, σ) := by
  simp [convA, ty32, ty9, ty5, lenA, firstA, hg, getCells_intsOf hn, bytesOf_intsOf]
theorem l95_out (n : Nat) (hn : n ≤ 4) (f : Nat → Bool) (z : Nat) (o : Bool) : ∀ (m j : Nat) (σ : St), j + m = n → σ.get 0 = some ⟨intsOf (txt (pw n) (nf j f)), z, o⟩ →
    ∃ σ', exI TT (FI.of Tryd.f95 (TT.an 95)) K95_0 [(3, .sl 0 0 (pw n) (pw n)), (4, .int .i64 (pw j : Nat))] σ = some (.str (txt (pw n) (nf n f)), σ') := by
  have hp := pw_4 hn
  intro m
  induction m with
  | zero =>
    intro j σ hj hg
    obtain rfl : j = n := by omega
    have hs := toStrN hg (txt_length _ _).symm
    refine ⟨σ, ?_⟩
    generalize txt (pw j) (nf j f) = w at *
    generalize pw j = P at *
    rw [fi95]
    rw [xl95_0]
    simp only [B95_0, b95, Tryd.f95, Option.getD, fstC, sndC, bodyC, thnC, elsC]
    simp [xI_seq, xI_region, xI_ret, regA, regOps, runOps, opStep, wantedA, opA, evo, evos, calleeA, lk, nif_eq, putE, paramsE, valS, val2, keepE, restrict, finA, resA, binA, binInt, ofConst, ofConst1, loadA, TK.isAgg, asVar, unA, builtinA, lenOpA, lenA, ileb_cast, ileb_eq, ieqb_dec, indexAddrA, inB_dec, evPairs, storeA, AV.cellsOf, pairsOf, xI_nil, binBool, gcE, evOpt, tagZ, xI_block, xI_loopH, xI_condM, xI_exitM, xI_skip, xI_blk, exitA, ty3, ty5, ty9, ty32, eK95_0_0, eK95_1_2, eK95_1_1, eK95_1_0]
    simp only [R95_0_0, b95, Tryd.f95, Option.getD, fstC, sndC, bodyC, thnC, elsC]
    simp [xI_seq, xI_region, xI_ret, regA, regOps, runOps, opStep, wantedA, opA, evo, evos, calleeA, lk, nif_eq, putE, paramsE, valS, val2, keepE, restrict, finA, resA, binA, binInt, ofConst, ofConst1, loadA, TK.isAgg, asVar, unA, builtinA, lenOpA, lenA, ileb_cast, ileb_eq, ieqb_dec, indexAddrA, inB_dec, evPairs, storeA, AV.cellsOf, pairsOf, xI_nil, binBool, gcE, evOpt, tagZ, xI_block, xI_loopH, xI_condM, xI_exitM, xI_skip, xI_blk, exitA, ty3, ty5, ty9, ty32, eK95_0_0, eK95_1_2, eK95_1_1, eK95_1_0, hs]
  | succ m ih =>
    intro j σ hj hg
    obtain ⟨σ1, h1, g1⟩ := l95_in (pw n) j hp (by omega) (nf j f) z o (pw n) 0 σ (by omega) (by rw [hg, txt_congr (g := half j (nf j f) 0) (fun y hy => by rw [half, if_neg (Nat.not_lt_zero y)])])
    obtain ⟨σ', h2⟩ := ih (j + 1) σ1 (by omega) g1
    refine ⟨σ', ?_⟩
    rw [← h2]
    have hjn : pw j < pw n := Nat.pow_lt_pow_right (by decide) (by omega)
    have hlt : ((pw j : Nat) : Int) < ((pw n : Nat) : Int) := by omega
    have hnl : ¬ pw n ≤ pw j := by omega
    have hw : wrapA .i64 (((pw j : Nat) : Int) * 2) = ((pw (j + 1) : Nat) : Int) := by
      have e : pw (j + 1) = pw j * 2 := Nat.pow_succ 2 j
      rw [wrapA_id (by omega) (by omega), e]; omega
    clear ih g1 hg h2
    simp only [show ((0 : Nat) : Int) = 0 from rfl] at h1
    generalize pw (j + 1) = Q at *
    generalize pw j = P at *
    generalize pw n = N at *
    rw [fi95] at h1 ⊢
    conv => lhs; rw [xl95_0]
    simp only [B95_0, b95, Tryd.f95, Option.getD, fstC, sndC, bodyC, thnC, elsC]
    simp [xI_seq, xI_region, xI_ret, regA, regOps, runOps, opStep, wantedA, opA, evo, evos, calleeA, lk, nif_eq, putE, paramsE, valS, val2, keepE, restrict, finA, resA, binA, binInt, ofConst, ofConst1, loadA, TK.isAgg, asVar, unA, builtinA, lenOpA, lenA, ileb_cast, ileb_eq, ieqb_dec, indexAddrA, inB_dec, evPairs, storeA, AV.cellsOf, pairsOf, xI_nil, binBool, gcE, evOpt, tagZ, xI_block, xI_loopH, xI_condM, xI_exitM, xI_skip, xI_blk, exitA, ty3, ty5, ty9, ty32, eK95_0_0, eK95_1_2, eK95_1_1, eK95_1_0, hlt, hnl, hjn]
    refine Eq.trans h1 ?_
    simp only [R95_1_2, b95, Tryd.f95, Option.getD, fstC, sndC, bodyC, thnC, elsC]
    simp [xI_seq, xI_region, xI_ret, regA, regOps, runOps, opStep, wantedA, opA, evo, evos, calleeA, lk, nif_eq, putE, paramsE, valS, val2, keepE, restrict, finA, resA, binA, binInt, ofConst, ofConst1, loadA, TK.isAgg, asVar, unA, builtinA, lenOpA, lenA, ileb_cast, ileb_eq, ieqb_dec, indexAddrA, inB_dec, evPairs, storeA, AV.cellsOf, pairsOf, xI_nil, binBool, gcE, evOpt, tagZ, xI_block, xI_loopH, xI_condM, xI_exitM, xI_skip, xI_blk, exitA, ty3, ty5, ty9, ty32, eK95_0_0, eK95_1_2, eK95_1_1, eK95_1_0, hw]
theorem v95 {n : Nat} {l : List UInt8} (h : Tbl n l) : FnV TT 95 [.str l] (.str (txt (pw n) (nf n (bitf l)))) := by
  have hl : l = txt (pw n) (bitf l) := by rw [← h.1]; exact txt_of h.2.2
  obtain ⟨σ', h1⟩ := l95_out n h.2.1 (bitf l) 1 true n 0 ((⟨[], 0⟩ : St).push ⟨intsOf l, 1, true⟩) (by omega) (by rw [nf, ← hl]; exact get_push_same)
  refine FnV.mk fn95 rfl md95 ⟨σ', ?_⟩ (fun _ => rfl) rfl
  have hc : convA TT ⟨[], 0⟩ 9 32 (.str l) = some (.sl 0 0 (pw n) (pw n), (⟨[], 0⟩ : St).push ⟨intsOf l, 1, true⟩) := by
    simp [convA, ty32, ty9, ty5, h.1]
  rw [show ((pw 0 : Nat) : Int) = 1 from rfl] at h1
  rw [← h1, fi95]
  clear h1 hl
  generalize pw n = N at *
  simp [xI_seq, xI_region, xI_ret, regA, regOps, runOps, opStep, wantedA, opA, evo, evos, calleeA, lk, nif_eq, putE, paramsE, valS, val2, keepE, restrict, finA, resA, binA, binInt, ofConst, ofConst1, loadA, TK.isAgg, asVar, unA, builtinA, lenOpA, lenA, ileb_cast, ileb_eq, ieqb_dec, indexAddrA, inB_dec, evPairs, storeA, AV.cellsOf, pairsOf, xI_nil, binBool, gcE, evOpt, tagZ, xI_block, xI_loopH, xI_condM, xI_exitM, xI_skip, xI_blk, exitA, ty3, ty5, ty9, ty32, eK95_0_0, eK95_1_2, eK95_1_1, eK95_1_0, hc]
  rfl

end Go.Proofs.YthkdbkjkccogfaaDoor
