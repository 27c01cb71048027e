/- Contracts: FairBlock; even rows of texts. Nothing is claimed here; no condition. -/
import Derived.Test.YthkdbkjkccogfaaDoorFb
import Derived.Test.YthkdbkjkccogfaaDoorXd
namespace Go.Proofs.YthkdbkjkccogfaaDoor
open Go Go.Abs
set_option linter.unusedSimpArgs false
set_option linter.unusedVariables false
open Go.Wd
noncomputable def b51 : Code := Tryd.f51.body.getD .skip
noncomputable def B51_0 : Code := (bodyC (bodyC (sndC (fstC (sndC b51)))))
noncomputable def K51_0 : List It := .lp B51_0 :: .blk 0 :: .code (sndC (sndC b51)) :: []
theorem xl51_0 {fi : FI} {env : Env} {σ : St} : exI TT fi K51_0 env σ = exI TT fi (.code B51_0 :: K51_0) env σ := by unfold K51_0; exact xI_lp
noncomputable def R51_0_0 : List It := .code (sndC (sndC b51)) :: []
theorem eK51_0_0 : exitA 0 K51_0 = some R51_0_0 := rfl
noncomputable def B51_1 : Code := (bodyC (bodyC (sndC (fstC (sndC (sndC (bodyC (fstC (sndC (bodyC (bodyC (sndC (fstC (sndC b51))))))))))))))
noncomputable def K51_1 : List It := .lp B51_1 :: .blk 2 :: .code (sndC (sndC (sndC (bodyC (fstC (sndC (bodyC (bodyC (sndC (fstC (sndC b51))))))))))) :: .blk 1 :: .code (sndC (sndC (bodyC (bodyC (sndC (fstC (sndC b51))))))) :: K51_0
theorem xl51_1 {fi : FI} {env : Env} {σ : St} : exI TT fi K51_1 env σ = exI TT fi (.code B51_1 :: K51_1) env σ := by unfold K51_1; exact xI_lp
noncomputable def R51_1_2 : List It := .code (sndC (sndC (sndC (bodyC (fstC (sndC (bodyC (bodyC (sndC (fstC (sndC b51))))))))))) :: .blk 1 :: .code (sndC (sndC (bodyC (bodyC (sndC (fstC (sndC b51))))))) :: K51_0
theorem eK51_1_2 : exitA 2 K51_1 = some R51_1_2 := rfl
noncomputable def R51_1_1 : List It := .code (sndC (sndC (bodyC (bodyC (sndC (fstC (sndC b51))))))) :: K51_0
theorem eK51_1_1 : exitA 1 K51_1 = some R51_1_1 := rfl
theorem eK51_1_0 : exitA 0 K51_1 = some R51_0_0 := rfl
def cE (x : List UInt8) : List (List UInt8) → Nat
  | [] => 0
  | y :: r => (if y = x then 1 else 0) + cE x r
def cL (n : Nat) : List (List UInt8) → Nat
  | [] => 0
  | y :: r => (if y.length = n then 1 else 0) + cL n r
theorem cE_le (x : List UInt8) : ∀ L, cE x L ≤ L.length
  | [] => Nat.le_refl _
  | y :: r => by have := cE_le x r; simp only [cE, List.length_cons]; split <;> omega
theorem cL_le (n : Nat) : ∀ L, cL n L ≤ L.length
  | [] => Nat.le_refl _
  | y :: r => by have := cL_le n r; simp only [cL, List.length_cons]; split <;> omega
theorem l51_in (L : List (List UInt8)) (hL : L.length ≤ 1000) (i : Nat) (x : List UInt8) (hi : L[i]? = some x) (σ : St) : ∀ (suf : List (List UInt8)) (j c1 c2 : Nat), L.drop j = suf → j ≤ L.length → c1 ≤ j → c2 ≤ j →
    exI TT (FI.of Tryd.f51 (TT.an 51)) K51_1 [(0, .lst L.length (strs L)), (3, .int .i64 i), (4, .int .i64 c1), (5, .int .i64 c2), (6, .int .i64 j)] σ = exI TT (FI.of Tryd.f51 (TT.an 51)) R51_1_2 [(0, .lst L.length (strs L)), (3, .int .i64 i), (4, .int .i64 (c1 + cE x suf : Nat)), (5, .int .i64 (c2 + cL x.length suf : Nat)), (6, .int .i64 L.length), (16, .bool false)] σ := by
  have hiL : i < L.length := (List.getElem?_eq_some_iff.1 hi).1
  have hri : ∀ σ : St, cellsAt σ (.lp (strs L) i) 1 = some [.str x] := fun σ => strs_read hi
  intro suf
  induction suf with
  | nil =>
    intro j c1 c2 hd hj h1 h2
    have : (L.drop j).length = 0 := by rw [hd]; rfl
    rw [List.length_drop] at this
    obtain rfl : j = L.length := by omega
    simp only [cE, cL, Nat.add_zero]
    generalize L.length = m at *
    rw [fi51]
    conv => lhs; rw [xl51_1]
    simp only [B51_1, b51, Tryd.f51, Option.getD, fstC, sndC, bodyC, thnC, elsC]
    simp [xI_seq, xI_region, xI_ret, regA, regOps, runOps, opStep, wantedA, opA, evo, evos, calleeA, lk, nif_eq, putE, paramsE, valS, val2, keepE, restrict, finA, resA, binA, binInt, ofConst, ofConst1, loadA, TK.isAgg, asVar, unA, builtinA, lenOpA, lenA, ileb_cast, ileb_eq, ieqb_dec, indexAddrA, inB_dec, evPairs, storeA, AV.cellsOf, pairsOf, xI_nil, binBool, gcE, evOpt, tagZ, xI_block, xI_loopH, xI_condM, xI_exitM, xI_skip, xI_blk, exitA, ty2, ty3, ty9, ty36, ty67, eK51_0_0, eK51_1_2, eK51_1_1, eK51_1_0]
  | cons y suf ih =>
    intro j c1 c2 hd hj h1 h2
    obtain ⟨d1, d2, d3⟩ := dp1 hd
    have hrj : ∀ σ : St, cellsAt σ (.lp (strs L) j) 1 = some [.str y] := fun σ => strs_read d2
    have hlt : (j : Int) < (L.length : Int) := by omega
    have hnl : ¬ ((L.length : Int) ≤ (j : Int)) := by omega
    have hnl2 : ¬ (L.length ≤ j) := by omega
    have hnli : ¬ (L.length ≤ i) := by omega
    have hw : wrapA .i64 ((j : Int) + 1) = (j : Int) + 1 := wrapA_id (by omega) (by omega)
    have hw1 : wrapA .i64 ((c1 : Int) + 1) = (c1 : Int) + 1 := wrapA_id (by omega) (by omega)
    have hw2 : wrapA .i64 ((c2 : Int) + 1) = (c2 : Int) + 1 := wrapA_id (by omega) (by omega)
    by_cases hyx : y = x
    · subst hyx
      have h3 := ih (j + 1) (c1 + 1) (c2 + 1) d3 (by omega) (by omega) (by omega)
      rw [show c1 + 1 + cE y suf = c1 + cE y (y :: suf) by simp [cE]; omega, show c2 + 1 + cL y.length suf = c2 + cL y.length (y :: suf) by simp [cL]; omega] at h3
      rw [← h3, show ((j + 1 : Nat) : Int) = (j : Int) + 1 by omega, show ((c1 + 1 : Nat) : Int) = (c1 : Int) + 1 by omega, show ((c2 + 1 : Nat) : Int) = (c2 : Int) + 1 by omega]
      clear h3 ih
      generalize L.length = m at *
      generalize hyn : y.length = n at *
      rw [fi51]
      conv => lhs; rw [xl51_1]
      simp only [B51_1, b51, Tryd.f51, Option.getD, fstC, sndC, bodyC, thnC, elsC]
      simp [xI_seq, xI_region, xI_ret, regA, regOps, runOps, opStep, wantedA, opA, evo, evos, calleeA, lk, nif_eq, putE, paramsE, valS, val2, keepE, restrict, finA, resA, binA, binInt, ofConst, ofConst1, loadA, TK.isAgg, asVar, unA, builtinA, lenOpA, lenA, ileb_cast, ileb_eq, ieqb_dec, indexAddrA, inB_dec, evPairs, storeA, AV.cellsOf, pairsOf, xI_nil, binBool, gcE, evOpt, tagZ, xI_block, xI_loopH, xI_condM, xI_exitM, xI_skip, xI_blk, exitA, ty2, ty3, ty9, ty36, ty67, eK51_0_0, eK51_1_2, eK51_1_1, eK51_1_0, indexA, binStr, ty9, ty5, hlt, hnl, hnl2, hnli, d1, hiL, hw, hw1, hw2, hrj, hri, hyn]
    · have hb : (y == x) = false := by simpa using hyx
      by_cases hle : y.length = x.length
      · have h3 := ih (j + 1) c1 (c2 + 1) d3 (by omega) (by omega) (by omega)
        rw [show c1 + cE x suf = c1 + cE x (y :: suf) by simp [cE, hyx], show c2 + 1 + cL x.length suf = c2 + cL x.length (y :: suf) by simp [cL, hle]; omega] at h3
        rw [← h3, show ((j + 1 : Nat) : Int) = (j : Int) + 1 by omega, show ((c2 + 1 : Nat) : Int) = (c2 : Int) + 1 by omega]
        clear h3 ih
        generalize L.length = m at *
        generalize hyn : x.length = n at *
        rw [fi51]
        conv => lhs; rw [xl51_1]
        simp only [B51_1, b51, Tryd.f51, Option.getD, fstC, sndC, bodyC, thnC, elsC]
        simp [xI_seq, xI_region, xI_ret, regA, regOps, runOps, opStep, wantedA, opA, evo, evos, calleeA, lk, nif_eq, putE, paramsE, valS, val2, keepE, restrict, finA, resA, binA, binInt, ofConst, ofConst1, loadA, TK.isAgg, asVar, unA, builtinA, lenOpA, lenA, ileb_cast, ileb_eq, ieqb_dec, indexAddrA, inB_dec, evPairs, storeA, AV.cellsOf, pairsOf, xI_nil, binBool, gcE, evOpt, tagZ, xI_block, xI_loopH, xI_condM, xI_exitM, xI_skip, xI_blk, exitA, ty2, ty3, ty9, ty36, ty67, eK51_0_0, eK51_1_2, eK51_1_1, eK51_1_0, indexA, binStr, ty9, ty5, hlt, hnl, hnl2, hnli, d1, hiL, hw, hw1, hw2, hrj, hri, hyn, hle, hb, hyx]
      · have hle2 : ¬ (y.length : Int) = (x.length : Int) := by omega
        have h3 := ih (j + 1) c1 c2 d3 (by omega) (by omega) (by omega)
        rw [show c1 + cE x suf = c1 + cE x (y :: suf) by simp [cE, hyx], show c2 + cL x.length suf = c2 + cL x.length (y :: suf) by simp [cL, hle]] at h3
        rw [← h3, show ((j + 1 : Nat) : Int) = (j : Int) + 1 by omega]
        clear h3 ih
        generalize L.length = m at *
        generalize hyn : x.length = n at *
        generalize hzn : y.length = z at *
        rw [fi51]
        conv => lhs; rw [xl51_1]
        simp only [B51_1, b51, Tryd.f51, Option.getD, fstC, sndC, bodyC, thnC, elsC]
        simp [xI_seq, xI_region, xI_ret, regA, regOps, runOps, opStep, wantedA, opA, evo, evos, calleeA, lk, nif_eq, putE, paramsE, valS, val2, keepE, restrict, finA, resA, binA, binInt, ofConst, ofConst1, loadA, TK.isAgg, asVar, unA, builtinA, lenOpA, lenA, ileb_cast, ileb_eq, ieqb_dec, indexAddrA, inB_dec, evPairs, storeA, AV.cellsOf, pairsOf, xI_nil, binBool, gcE, evOpt, tagZ, xI_block, xI_loopH, xI_condM, xI_exitM, xI_skip, xI_blk, exitA, ty2, ty3, ty9, ty36, ty67, eK51_0_0, eK51_1_2, eK51_1_1, eK51_1_0, indexA, binStr, ty9, ty5, hlt, hnl, hnl2, hnli, d1, hiL, hw, hw1, hw2, hrj, hri, hyn, hzn, hle, hle2, hb, hyx]
def evOk (L : List (List UInt8)) (x : List UInt8) : Bool := decide (x.length ≤ 20) && Nat.beq (cE x L * 2 ^ x.length) (cL x.length L)
def evenS (L : List (List UInt8)) : Bool := L.all (evOk L)
theorem l51_out (L : List (List UInt8)) (hL : L.length ≤ 1000) (he : evenS L = true) (σ : St) : ∀ (suf : List (List UInt8)) (i : Nat), L.drop i = suf → i ≤ L.length →
    exI TT (FI.of Tryd.f51 (TT.an 51)) K51_0 [(0, .lst L.length (strs L)), (3, .int .i64 i)] σ = some (.bool true, σ) := by
  intro suf
  induction suf with
  | nil =>
    intro i hd hi
    have : (L.drop i).length = 0 := by rw [hd]; rfl
    rw [List.length_drop] at this
    obtain rfl : i = L.length := by omega
    generalize L.length = m at *
    rw [fi51]
    rw [xl51_0]
    simp only [B51_0, b51, Tryd.f51, Option.getD, fstC, sndC, bodyC, thnC, elsC]
    simp [xI_seq, xI_region, xI_ret, regA, regOps, runOps, opStep, wantedA, opA, evo, evos, calleeA, lk, nif_eq, putE, paramsE, valS, val2, keepE, restrict, finA, resA, binA, binInt, ofConst, ofConst1, loadA, TK.isAgg, asVar, unA, builtinA, lenOpA, lenA, ileb_cast, ileb_eq, ieqb_dec, indexAddrA, inB_dec, evPairs, storeA, AV.cellsOf, pairsOf, xI_nil, binBool, gcE, evOpt, tagZ, xI_block, xI_loopH, xI_condM, xI_exitM, xI_skip, xI_blk, exitA, ty2, ty3, ty9, ty36, ty67, eK51_0_0, eK51_1_2, eK51_1_1, eK51_1_0]
    simp only [R51_0_0, b51, Tryd.f51, Option.getD, fstC, sndC, bodyC, thnC, elsC]
    simp [xI_seq, xI_region, xI_ret, regA, regOps, runOps, opStep, wantedA, opA, evo, evos, calleeA, lk, nif_eq, putE, paramsE, valS, val2, keepE, restrict, finA, resA, binA, binInt, ofConst, ofConst1, loadA, TK.isAgg, asVar, unA, builtinA, lenOpA, lenA, ileb_cast, ileb_eq, ieqb_dec, indexAddrA, inB_dec, evPairs, storeA, AV.cellsOf, pairsOf, xI_nil, binBool, gcE, evOpt, tagZ, xI_block, xI_loopH, xI_condM, xI_exitM, xI_skip, xI_blk, exitA, ty2, ty3, ty9, ty36, ty67, eK51_0_0, eK51_1_2, eK51_1_1, eK51_1_0]
  | cons x suf ih =>
    intro i hd hi
    obtain ⟨d1, d2, d3⟩ := dp1 hd
    have hx := List.all_eq_true.1 he x (List.mem_of_getElem? d2)
    simp only [evOk, Bool.and_eq_true, decide_eq_true_eq] at hx
    obtain ⟨x1, x2⟩ := hx
    replace x2 := Nat.eq_of_beq_eq_true x2
    have h1 := l51_in L hL i x d2 σ L 0 0 0 rfl (Nat.zero_le _) (Nat.le_refl _) (Nat.le_refl _)
    simp only [Nat.zero_add] at h1
    have h2 := ih (i + 1) d3 d1
    have hri : ∀ σ : St, cellsAt σ (.lp (strs L) i) 1 = some [.str x] := fun σ => strs_read d2
    have e1 := cE_le x L
    have e20 : 2 ^ x.length ≤ 2 ^ 20 := Nat.pow_le_pow_right (by decide) x1
    have e3 := cL_le x.length L
    have s1 := sh_l (a := cE x L) (b := x.length) (by have := Nat.mul_le_mul e1 e20; omega) (by omega)
    have s2 : wrapA .u64 (x.length : Int) = (x.length : Int) := n_wrapu (by omega)
    rw [show shlN (cE x L) x.length = cL x.length L from x2] at s1
    rw [show ((i + 1 : Nat) : Int) = (i : Int) + 1 by omega] at h2
    have hlt : (i : Int) < (L.length : Int) := by omega
    have hnl : ¬ ((L.length : Int) ≤ (i : Int)) := by omega
    have hnl2 : ¬ (L.length ≤ i) := by omega
    have hw : wrapA .i64 ((i : Int) + 1) = (i : Int) + 1 := wrapA_id (by omega) (by omega)
    have hx20 : (x.length : Int) ≤ 20 := by omega
    have hx21 : ¬ ((20 : Int) < (x.length : Int)) := by omega
    clear ih x2 e20 e1 e3 he
    generalize L.length = m at *
    generalize cE x L = ce at *
    generalize hyn : x.length = n at *
    generalize cL n L = cl at *
    have hb1 : ¬ 20 < n := by omega
    have hb2 : ¬ 21 ≤ n := by omega
    rw [fi51] at h1 h2 ⊢
    rw [xl51_0]
    simp only [B51_0, b51, Tryd.f51, Option.getD, fstC, sndC, bodyC, thnC, elsC]
    simp [xI_seq, xI_region, xI_ret, regA, regOps, runOps, opStep, wantedA, opA, evo, evos, calleeA, lk, nif_eq, putE, paramsE, valS, val2, keepE, restrict, finA, resA, binA, binInt, ofConst, ofConst1, loadA, TK.isAgg, asVar, unA, builtinA, lenOpA, lenA, ileb_cast, ileb_eq, ieqb_dec, indexAddrA, inB_dec, evPairs, storeA, AV.cellsOf, pairsOf, xI_nil, binBool, gcE, evOpt, tagZ, xI_block, xI_loopH, xI_condM, xI_exitM, xI_skip, xI_blk, exitA, ty2, ty3, ty9, ty36, ty67, eK51_0_0, eK51_1_2, eK51_1_1, eK51_1_0, hlt, hnl, hnl2]
    refine Eq.trans h1 ?_
    simp only [R51_1_2, b51, Tryd.f51, Option.getD, fstC, sndC, bodyC, thnC, elsC]
    simp [xI_seq, xI_region, xI_ret, regA, regOps, runOps, opStep, wantedA, opA, evo, evos, calleeA, lk, nif_eq, putE, paramsE, valS, val2, keepE, restrict, finA, resA, binA, binInt, ofConst, ofConst1, loadA, TK.isAgg, asVar, unA, builtinA, lenOpA, lenA, ileb_cast, ileb_eq, ieqb_dec, indexAddrA, inB_dec, evPairs, storeA, AV.cellsOf, pairsOf, xI_nil, binBool, gcE, evOpt, tagZ, xI_block, xI_loopH, xI_condM, xI_exitM, xI_skip, xI_blk, exitA, ty2, ty3, ty9, ty36, ty67, eK51_0_0, eK51_1_2, eK51_1_1, eK51_1_0, indexA, convA, ty9, ty5, ty36, hlt, hnl, hnl2, d1, hw, hri, hyn, hx20, hx21, x1, hb1, hb2, s1, s2]
    exact h2
theorem v51 (L : List (List UInt8)) (hL : L.length ≤ 1000) (he : evenS L = true) : FnV TT 51 [.lst L.length (strs L)] (.bool true) := by
  refine FnV.mk fn51 rfl md51 ⟨⟨[], 0⟩, ?_⟩ (fun _ => rfl) rfl
  rw [← l51_out L hL he ⟨[], 0⟩ L 0 rfl (Nat.zero_le _)]
  rw [fi51]
  simp [xI_seq, xI_region, xI_ret, regA, regOps, runOps, opStep, wantedA, opA, evo, evos, calleeA, lk, nif_eq, putE, paramsE, valS, val2, keepE, restrict, finA, resA, binA, binInt, ofConst, ofConst1, loadA, TK.isAgg, asVar, unA, builtinA, lenOpA, lenA, ileb_cast, ileb_eq, ieqb_dec, indexAddrA, inB_dec, evPairs, storeA, AV.cellsOf, pairsOf, xI_nil, binBool, gcE, evOpt, tagZ, xI_block, xI_loopH, xI_condM, xI_exitM, xI_skip, xI_blk, exitA, ty2, ty3, ty9, ty36, ty67, eK51_0_0, eK51_1_2, eK51_1_1, eK51_1_0]
  rfl

namespace TXF
theorem fn50 : TX.fn 50 = some Tryd.f50 := Go.Proofs.YthkdbkjkccogfaaDoor.fn50
theorem md50 : (TX.an 50).mode = 1 := Go.Proofs.YthkdbkjkccogfaaDoor.md50
theorem fi50 : FI.of Tryd.f50 (TX.an 50) = ⟨[.tmp 2, .tmp 3], 67, [(0, [0]), (1, [0, 18]), (2, [2, 3]), (3, [0, 4, 5, 6]), (4, [0, 4, 5, 6, 7]), (5, [0, 4, 5, 6, 7, 27, 28]), (6, [0, 4, 5, 6, 7, 27, 28, 29]), (7, [0, 4, 5, 6, 7, 8, 27, 28]), (8, [0, 4, 5, 6, 7, 8, 27, 28, 34]), (9, [0, 4, 5, 6, 7, 27, 28]), (10, [0, 4, 5, 6, 7, 27, 28]), (11, [0, 4, 5, 6, 7, 27, 28]), (12, [6, 7, 9]), (13, [6, 7, 9, 49]), (14, [6, 7, 9]), (15, [6, 7, 9, 10]), (16, [6, 7, 9, 10, 57]), (17, [6, 7, 9, 10, 60]), (18, [2, 3]), (19, [6, 7, 9]), (20, [2, 3])], []⟩ := Go.Proofs.YthkdbkjkccogfaaDoor.fi50
theorem ty2 : TX.ty 2 = some ⟨.int .i64, 1, 8, [.int .i64 0]⟩ := Go.Proofs.YthkdbkjkccogfaaDoor.ty2
theorem ty3 : TX.ty 3 = some ⟨.int .i64, 1, 8, [.int .i64 0]⟩ := Go.Proofs.YthkdbkjkccogfaaDoor.ty3
theorem ty4 : TX.ty 4 = some ⟨.bool, 1, 1, [.bool false]⟩ := Go.Proofs.YthkdbkjkccogfaaDoor.ty4
theorem ty5 : TX.ty 5 = some ⟨.int .u8, 1, 1, [.int .u8 0]⟩ := Go.Proofs.YthkdbkjkccogfaaDoor.ty5
theorem ty9 : TX.ty 9 = some ⟨.string, 1, 16, [.str []]⟩ := Go.Proofs.YthkdbkjkccogfaaDoor.ty9
theorem ty36 : TX.ty 36 = some ⟨.int .u64, 1, 8, [.int .u64 0]⟩ := Go.Proofs.YthkdbkjkccogfaaDoor.ty36
noncomputable def b50 : Code := Tryd.f50.body.getD .skip
noncomputable def B50_0 : Code := (bodyC (bodyC (sndC (fstC (sndC (sndC (sndC (sndC b50))))))))
noncomputable def K50_0 : List It := .lp B50_0 :: .blk 0 :: .code (sndC (sndC (sndC (sndC (sndC b50))))) :: []
theorem xl50_0 {fi : FI} {env : Env} {σ : St} : exI TX fi K50_0 env σ = exI TX fi (.code B50_0 :: K50_0) env σ := by unfold K50_0; exact xI_lp
noncomputable def R50_0_0 : List It := .code (sndC (sndC (sndC (sndC (sndC b50))))) :: []
theorem eK50_0_0 : exitA 0 K50_0 = some R50_0_0 := rfl
noncomputable def B50_1 : Code := (bodyC (bodyC (sndC (fstC (sndC (sndC (sndC (sndC (sndC b50)))))))))
noncomputable def K50_1 : List It := .lp B50_1 :: .blk 2 :: .code (sndC (sndC (sndC (sndC (sndC (sndC b50)))))) :: []
theorem xl50_1 {fi : FI} {env : Env} {σ : St} : exI TX fi K50_1 env σ = exI TX fi (.code B50_1 :: K50_1) env σ := by unfold K50_1; exact xI_lp
noncomputable def R50_1_2 : List It := .code (sndC (sndC (sndC (sndC (sndC (sndC b50)))))) :: []
theorem eK50_1_2 : exitA 2 K50_1 = some R50_1_2 := rfl
theorem c98 (s : List UInt8) (σ : St) : callI TX 98 [.str s, .str [49]] σ = some (.int .i64 (s.count 49 : Nat), σ) := by
  have h8 : TX.fn 98 = none := by kernel_rfl
  unfold callI callA
  rw [h8]
  rfl
def rkS : List UInt8 → Nat → Nat
  | [], r => r
  | x :: t, r => if x = 49 then rkS t (r + chN t.length (t.count 49 + 1)) else rkS t r
def spS (c : Nat) : Nat → Nat → List UInt8 × Bool
  | 0, _ => ([], false)
  | e + 1, r => if andN c (pw e) = 0 then spS c e r else if r < pw e then (bsOf e r, true) else spS c e (r - pw e)
theorem l50_2 (c : Nat) (hc : c ≤ 127) (σ : St) : ∀ (m r : Nat), m ≤ 7 → r ≤ 100000 →
    exI TX (FI.of Tryd.f50 (TX.an 50)) K50_1 [(6, .int .i64 r), (7, .int .i64 c), (9, .int .i64 ((m : Int) - 1))] σ = some (.tup [.str (spS c m r).1, .bool (spS c m r).2], σ) := by
  intro m
  induction m with
  | zero =>
    intro r _ _
    rw [show ((0 : Nat) : Int) - 1 = -1 from rfl]
    rw [fi50]
    rw [xl50_1]
    simp only [B50_1, b50, Tryd.f50, Option.getD, fstC, sndC, bodyC, thnC, elsC]
    simp [xI_seq, xI_region, xI_ret, regA, regOps, runOps, opStep, wantedA, opA, evo, evos, calleeA, lk, nif_eq, putE, paramsE, valS, val2, keepE, restrict, finA, resA, binA, binInt, ofConst, ofConst1, loadA, TK.isAgg, asVar, unA, builtinA, lenOpA, lenA, ileb_cast, ileb_eq, ieqb_dec, indexAddrA, inB_dec, evPairs, storeA, AV.cellsOf, pairsOf, xI_nil, binBool, gcE, evOpt, tagZ, xI_block, xI_loopH, xI_condM, xI_exitM, xI_skip, xI_blk, exitA, ty2, ty3, ty4, ty5, ty9, eK50_0_0, eK50_1_2]
    simp only [R50_1_2, b50, Tryd.f50, Option.getD, fstC, sndC, bodyC, thnC, elsC]
    simp [xI_seq, xI_region, xI_ret, regA, regOps, runOps, opStep, wantedA, opA, evo, evos, calleeA, lk, nif_eq, putE, paramsE, valS, val2, keepE, restrict, finA, resA, binA, binInt, ofConst, ofConst1, loadA, TK.isAgg, asVar, unA, builtinA, lenOpA, lenA, ileb_cast, ileb_eq, ieqb_dec, indexAddrA, inB_dec, evPairs, storeA, AV.cellsOf, pairsOf, xI_nil, binBool, gcE, evOpt, tagZ, xI_block, xI_loopH, xI_condM, xI_exitM, xI_skip, xI_blk, exitA, ty2, ty3, ty4, ty5, ty9, eK50_0_0, eK50_1_2, spS]
  | succ e ih =>
    intro r he hr
    have hp1 : 1 ≤ pw e := Nat.one_le_two_pow
    have hp2 : pw e ≤ 2 ^ 6 := Nat.pow_le_pow_right (by decide) (by omega)
    have s1 := sh_1 (b := e) (by omega)
    have s2 := n_and (a := c) (b := pw e) (by omega) (by omega)
    have hw : wrapA .i64 ((e : Int) - 1) = (e : Int) - 1 := wrapA_id (by omega) (by omega)
    have hneg : ¬ (e : Int) < 0 := by omega
    have hpos : (0 : Int) ≤ (e : Int) := by omega
    rw [show ((e + 1 : Nat) : Int) - 1 = (e : Int) by omega]
    by_cases hz : andN c (pw e) = 0
    · have h1 := ih r (by omega) hr
      rw [show spS c (e + 1) r = spS c e r by rw [spS, if_pos hz], ← h1]
      clear h1 ih
      rw [hz] at s2
      generalize pw e = P at *
      rw [fi50]
      conv => lhs; rw [xl50_1]
      simp only [B50_1, b50, Tryd.f50, Option.getD, fstC, sndC, bodyC, thnC, elsC]
      simp [xI_seq, xI_region, xI_ret, regA, regOps, runOps, opStep, wantedA, opA, evo, evos, calleeA, lk, nif_eq, putE, paramsE, valS, val2, keepE, restrict, finA, resA, binA, binInt, ofConst, ofConst1, loadA, TK.isAgg, asVar, unA, builtinA, lenOpA, lenA, ileb_cast, ileb_eq, ieqb_dec, indexAddrA, inB_dec, evPairs, storeA, AV.cellsOf, pairsOf, xI_nil, binBool, gcE, evOpt, tagZ, xI_block, xI_loopH, xI_condM, xI_exitM, xI_skip, xI_blk, exitA, ty2, ty3, ty4, ty5, ty9, eK50_0_0, eK50_1_2, s1, s2, hw, hneg, hpos]
    · have hz2 : ¬ ((andN c (pw e) : Nat) : Int) = 0 := by omega
      by_cases hlt : r < pw e
      · have hb := more (v100 (n := e) (v := r) (by omega) hlt σ [.int .i64 r, .int .i64 e] rfl)
        rw [show spS c (e + 1) r = (bsOf e r, true) by rw [spS, if_neg hz, if_pos hlt]]
        clear ih
        generalize bsOf e r = w at *
        generalize andN c (pw e) = A at *
        generalize pw e = P at *
        have hlt2 : (r : Int) < (P : Int) := by omega
        have hnl2 : ¬ P ≤ r := by omega
        rw [fi50]
        conv => lhs; rw [xl50_1]
        simp only [B50_1, b50, Tryd.f50, Option.getD, fstC, sndC, bodyC, thnC, elsC]
        simp [xI_seq, xI_region, xI_ret, regA, regOps, runOps, opStep, wantedA, opA, evo, evos, calleeA, lk, nif_eq, putE, paramsE, valS, val2, keepE, restrict, finA, resA, binA, binInt, ofConst, ofConst1, loadA, TK.isAgg, asVar, unA, builtinA, lenOpA, lenA, ileb_cast, ileb_eq, ieqb_dec, indexAddrA, inB_dec, evPairs, storeA, AV.cellsOf, pairsOf, xI_nil, binBool, gcE, evOpt, tagZ, xI_block, xI_loopH, xI_condM, xI_exitM, xI_skip, xI_blk, exitA, ty2, ty3, ty4, ty5, ty9, eK50_0_0, eK50_1_2, s1, s2, hw, hneg, hpos, hz, hz2, hlt, hlt2, hnl2, hb]
      · have h1 := ih (r - pw e) (by omega) (by omega)
        rw [show spS c (e + 1) r = spS c e (r - pw e) by rw [spS, if_neg hz, if_neg hlt], ← h1]
        have hw2 : wrapA .i64 ((r : Int) - (pw e : Nat)) = ((r - pw e : Nat) : Int) := by rw [wrapA_id (by omega) (by omega)]; omega
        clear h1 ih
        generalize r - pw e = d at *
        generalize andN c (pw e) = A at *
        generalize pw e = P at *
        have hlt2 : ¬ (r : Int) < (P : Int) := by omega
        have hnl2 : P ≤ r := by omega
        rw [fi50]
        conv => lhs; rw [xl50_1]
        simp only [B50_1, b50, Tryd.f50, Option.getD, fstC, sndC, bodyC, thnC, elsC]
        simp [xI_seq, xI_region, xI_ret, regA, regOps, runOps, opStep, wantedA, opA, evo, evos, calleeA, lk, nif_eq, putE, paramsE, valS, val2, keepE, restrict, finA, resA, binA, binInt, ofConst, ofConst1, loadA, TK.isAgg, asVar, unA, builtinA, lenOpA, lenA, ileb_cast, ileb_eq, ieqb_dec, indexAddrA, inB_dec, evPairs, storeA, AV.cellsOf, pairsOf, xI_nil, binBool, gcE, evOpt, tagZ, xI_block, xI_loopH, xI_condM, xI_exitM, xI_skip, xI_blk, exitA, ty2, ty3, ty4, ty5, ty9, eK50_0_0, eK50_1_2, s1, s2, hw, hw2, hneg, hpos, hz, hz2, hlt, hlt2, hnl2]
theorem rkS_le : ∀ (s : List UInt8) (r : Nat), s.length ≤ 8 → rkS s r ≤ r + 70 * s.length
  | [], r, _ => Nat.le_refl _
  | x :: t, r, h => by
    rw [List.length_cons] at h
    rw [rkS]; split
    · have h1 := rkS_le t (r + chN t.length (t.count 49 + 1)) (by omega)
      have h2 : chN t.length (t.count 49 + 1) ≤ 70 := chN_le (by omega) (by have := List.count_le_length (a := (49 : UInt8)) (l := t); omega)
      rw [List.length_cons]; omega
    · have h1 := rkS_le t r (by omega)
      rw [List.length_cons]; omega
theorem l50_0 (s : List UInt8) (hs : s.length ≤ 8) (c e : Nat) (hc : c ≤ 127) (he : e ≤ 7) (hce : lgI c = (e : Int) - 1) (σ : St) : ∀ (suf : List UInt8) (i r : Nat), s.drop i = suf → i ≤ s.length → r ≤ 100 * i →
    exI TX (FI.of Tryd.f50 (TX.an 50)) K50_0 [(0, .str s), (4, .int .i64 s.length), (5, .int .i64 (suf.count 49 : Nat)), (6, .int .i64 r), (7, .int .i64 c), (27, .int .i64 s.length), (28, .int .i64 i)] σ = some (.tup [.str (spS c e (rkS suf r)).1, .bool (spS c e (rkS suf r)).2], σ) := by
  intro suf
  induction suf with
  | nil =>
    intro i r hd hi hr
    have : (s.drop i).length = 0 := by rw [hd]; rfl
    rw [List.length_drop] at this
    obtain rfl : i = s.length := by omega
    have h1 := l50_2 c hc σ e r he (by omega)
    have h2 := more (v84 (n := c) (by omega) σ [.int .i64 c] rfl)
    rw [hce] at h2
    rw [show rkS [] r = r from rfl, ← h1]
    clear h1
    generalize s.length = m at *
    rw [fi50]
    conv => lhs; rw [xl50_0]
    simp only [B50_0, b50, Tryd.f50, Option.getD, fstC, sndC, bodyC, thnC, elsC]
    simp [xI_seq, xI_region, xI_ret, regA, regOps, runOps, opStep, wantedA, opA, evo, evos, calleeA, lk, nif_eq, putE, paramsE, valS, val2, keepE, restrict, finA, resA, binA, binInt, ofConst, ofConst1, loadA, TK.isAgg, asVar, unA, builtinA, lenOpA, lenA, ileb_cast, ileb_eq, ieqb_dec, indexAddrA, inB_dec, evPairs, storeA, AV.cellsOf, pairsOf, xI_nil, binBool, gcE, evOpt, tagZ, xI_block, xI_loopH, xI_condM, xI_exitM, xI_skip, xI_blk, exitA, ty2, ty3, ty4, ty5, ty9, eK50_0_0, eK50_1_2]
    simp only [R50_0_0, b50, Tryd.f50, Option.getD, fstC, sndC, bodyC, thnC, elsC]
    simp [xI_seq, xI_region, xI_ret, regA, regOps, runOps, opStep, wantedA, opA, evo, evos, calleeA, lk, nif_eq, putE, paramsE, valS, val2, keepE, restrict, finA, resA, binA, binInt, ofConst, ofConst1, loadA, TK.isAgg, asVar, unA, builtinA, lenOpA, lenA, ileb_cast, ileb_eq, ieqb_dec, indexAddrA, inB_dec, evPairs, storeA, AV.cellsOf, pairsOf, xI_nil, binBool, gcE, evOpt, tagZ, xI_block, xI_loopH, xI_condM, xI_exitM, xI_skip, xI_blk, exitA, ty2, ty3, ty4, ty5, ty9, eK50_0_0, eK50_1_2, h2]
    rfl
  | cons x suf ih =>
    intro i r hd hi hr
    obtain ⟨d1, d2, d3⟩ := dp1 hd
    have hsl : suf.length + 1 = s.length - i := by
      have : (s.drop i).length = suf.length + 1 := by rw [hd]; rfl
      rw [List.length_drop] at this; omega
    have hlt : (i : Int) < (s.length : Int) := by omega
    have hnl : ¬ ((s.length : Int) ≤ (i : Int)) := by omega
    have hw : wrapA .i64 ((i : Int) + 1) = (i : Int) + 1 := wrapA_id (by omega) (by omega)
    have hcl := List.count_le_length (a := (49 : UInt8)) (l := suf)
    by_cases hx : x = 49
    · subst hx
      have hch : chN suf.length (suf.count 49 + 1) ≤ 70 := chN_le (by omega) (by omega)
      have c1 := more (v99 (n := suf.length) (k := suf.count 49 + 1) (by omega) (by omega) σ [.int .i64 suf.length, .int .i64 (suf.count 49 + 1 : Nat)] rfl)
      have h1 := ih (i + 1) (r + chN suf.length (suf.count 49 + 1)) d3 d1 (by omega)
      rw [show rkS (49 :: suf) r = rkS suf (r + chN suf.length (suf.count 49 + 1)) by rw [rkS, if_pos rfl], ← h1]
      clear h1 ih
      rw [show List.count 49 (49 :: suf) = suf.count 49 + 1 by simp, show ((i + 1 : Nat) : Int) = (i : Int) + 1 by omega]
      have w1 : wrapA .i64 ((s.length : Int) - (i : Int)) = ((s.length - i : Nat) : Int) := by rw [wrapA_id (by omega) (by omega)]; omega
      have w2 : wrapA .i64 (((s.length - i : Nat) : Int) - 1) = (suf.length : Int) := by rw [wrapA_id (by omega) (by omega)]; omega
      have w3 : wrapA .i64 ((r : Int) + (chN suf.length (suf.count 49 + 1) : Nat)) = ((r + chN suf.length (suf.count 49 + 1) : Nat) : Int) := by rw [wrapA_id (by omega) (by omega)]; omega
      have w4 : wrapA .i64 (((suf.count 49 + 1 : Nat) : Int) - 1) = ((suf.count 49 : Nat) : Int) := by rw [wrapA_id (by omega) (by omega)]; omega
      generalize r + chN suf.length (suf.count 49 + 1) = r2 at *
      generalize chN suf.length (suf.count 49 + 1) = ch at *
      generalize suf.count 49 + 1 = k1 at *
      generalize suf.count 49 = k0 at *
      generalize suf.length = sl at *
      generalize s.length - i = si at *
      generalize hm : s.length = m at *
      rw [fi50]
      conv => lhs; rw [xl50_0]
      simp only [B50_0, b50, Tryd.f50, Option.getD, fstC, sndC, bodyC, thnC, elsC]
      simp [xI_seq, xI_region, xI_ret, regA, regOps, runOps, opStep, wantedA, opA, evo, evos, calleeA, lk, nif_eq, putE, paramsE, valS, val2, keepE, restrict, finA, resA, binA, binInt, ofConst, ofConst1, loadA, TK.isAgg, asVar, unA, builtinA, lenOpA, lenA, ileb_cast, ileb_eq, ieqb_dec, indexAddrA, inB_dec, evPairs, storeA, AV.cellsOf, pairsOf, xI_nil, binBool, gcE, evOpt, tagZ, xI_block, xI_loopH, xI_condM, xI_exitM, xI_skip, xI_blk, exitA, ty2, ty3, ty4, ty5, ty9, eK50_0_0, eK50_1_2, indexA, ty9, ty5, hlt, hnl, hw, d2, c1, w1, w2, w3, w4, hm]
    · have hne : ¬ (x.toNat : Int) = 49 := fun e => hx (UInt8.toNat_inj.1 (by show x.toNat = 49; omega))
      have hne2 : ¬ x.toNat = 49 := fun e => hne (by omega)
      have h1 := ih (i + 1) r d3 d1 (by omega)
      rw [show rkS (x :: suf) r = rkS suf r by rw [rkS, if_neg hx], ← h1]
      clear h1 ih
      rw [show List.count 49 (x :: suf) = suf.count 49 by rw [List.count_cons_of_ne (fun e => hx e)], show ((i + 1 : Nat) : Int) = (i : Int) + 1 by omega]
      generalize suf.count 49 = k0 at *
      generalize suf.length = sl at *
      generalize hm : s.length = m at *
      rw [fi50]
      conv => lhs; rw [xl50_0]
      simp only [B50_0, b50, Tryd.f50, Option.getD, fstC, sndC, bodyC, thnC, elsC]
      simp [xI_seq, xI_region, xI_ret, regA, regOps, runOps, opStep, wantedA, opA, evo, evos, calleeA, lk, nif_eq, putE, paramsE, valS, val2, keepE, restrict, finA, resA, binA, binInt, ofConst, ofConst1, loadA, TK.isAgg, asVar, unA, builtinA, lenOpA, lenA, ileb_cast, ileb_eq, ieqb_dec, indexAddrA, inB_dec, evPairs, storeA, AV.cellsOf, pairsOf, xI_nil, binBool, gcE, evOpt, tagZ, xI_block, xI_loopH, xI_condM, xI_exitM, xI_skip, xI_blk, exitA, ty2, ty3, ty4, ty5, ty9, eK50_0_0, eK50_1_2, indexA, ty9, ty5, hlt, hnl, hw, d2, hm, hne, hne2, hx]
def lgN (c : Nat) : Nat := if c = 0 then 0 else Nat.log2 c + 1
theorem lg_eq (c : Nat) : lgI c = (lgN c : Int) - 1 := by
  unfold lgI lgN; split <;> omega
theorem lgN_le {c : Nat} (h : c ≤ 127) : lgN c ≤ 7 := by
  unfold lgN; split
  · omega
  · rename_i h0
    have := (Nat.log2_lt h0 (k := 7)).2 (by omega)
    omega
def blkS (s : List UInt8) : List UInt8 × Bool := spS (chN s.length (s.count 49)) (lgN (chN s.length (s.count 49))) (rkS s 0)
theorem v50 (s : List UInt8) (hs : s.length ≤ 8) (hb : isBits s = true) : FnV TX 50 [.str s] (.tup [.str (blkS s).1, .bool (blkS s).2]) := by
  have hcl := List.count_le_length (a := (49 : UInt8)) (l := s)
  have hc : chN s.length (s.count 49) ≤ 70 := chN_le hs (by omega)
  refine FnV.mk fn50 rfl md50 ⟨⟨[], 0⟩, ?_⟩ (fun _ => rfl) rfl
  have h1 := l50_0 s hs (chN s.length (s.count 49)) (lgN (chN s.length (s.count 49))) (by omega) (lgN_le (by omega)) (lg_eq _) ⟨[], 0⟩ s 0 0 rfl (Nat.zero_le _) (Nat.le_refl _)
  rw [show blkS s = spS (chN s.length (s.count 49)) (lgN (chN s.length (s.count 49))) (rkS s 0) from rfl, ← h1]
  have c1 := more (c63 s (by omega) ⟨[], 0⟩)
  rw [hb] at c1
  have c2 := c98 s ⟨[], 0⟩
  have c3 := more (v99 (n := s.length) (k := s.count 49) hs (by omega) ⟨[], 0⟩ [.int .i64 s.length, .int .i64 (s.count 49 : Nat)] rfl)
  have h16 : ¬ (16 : Int) < (s.length : Int) := by omega
  have h16b : ¬ 16 < s.length := by omega
  have h16c : (s.length : Int) ≤ 16 := by omega
  have h16d : s.length ≤ 16 := by omega
  have hwl : wrapA .i64 (s.length : Int) = (s.length : Int) := wrapA_id (by omega) (by omega)
  have hwc : wrapA .i64 (s.count 49 : Nat) = ((s.count 49 : Nat) : Int) := wrapA_id (by omega) (by omega)
  clear h1
  generalize chN s.length (s.count 49) = c at *
  generalize s.count 49 = k at *
  generalize hm : s.length = m at *
  rw [fi50]
  simp [xI_seq, xI_region, xI_ret, regA, regOps, runOps, opStep, wantedA, opA, evo, evos, calleeA, lk, nif_eq, putE, paramsE, valS, val2, keepE, restrict, finA, resA, binA, binInt, ofConst, ofConst1, loadA, TK.isAgg, asVar, unA, builtinA, lenOpA, lenA, ileb_cast, ileb_eq, ieqb_dec, indexAddrA, inB_dec, evPairs, storeA, AV.cellsOf, pairsOf, xI_nil, binBool, gcE, evOpt, tagZ, xI_block, xI_loopH, xI_condM, xI_exitM, xI_skip, xI_blk, exitA, ty2, ty3, ty4, ty5, ty9, eK50_0_0, eK50_1_2, convA, ty9, hm, c1, c2, c3, h16, h16b, h16c, h16d, hwl, hwc]
  rfl
end TXF

end Go.Proofs.YthkdbkjkccogfaaDoor
