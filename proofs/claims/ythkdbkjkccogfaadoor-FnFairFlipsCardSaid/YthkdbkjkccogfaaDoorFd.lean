/- The law of fair flips. Nothing is claimed here; no condition. -/
import Derived.Test.YthkdbkjkccogfaaDoorFe
namespace Go.Proofs.YthkdbkjkccogfaaDoor
open Go Go.Abs
set_option linter.unusedSimpArgs false
set_option linter.unusedVariables false
open Go.Wd
open TXF (blkS)
namespace TXG
theorem fn10 : TX.fn 10 = some Tryd.f10 := Go.Proofs.YthkdbkjkccogfaaDoor.fn10
theorem md10 : (TX.an 10).mode = 1 := Go.Proofs.YthkdbkjkccogfaaDoor.md10
theorem fi10 : FI.of Tryd.f10 (TX.an 10) = ⟨[.tmp 4], 124, [(0, [0, 1]), (1, [0, 1, 23]), (2, [4]), (3, [0, 1, 5]), (4, [1, 5, 6]), (5, [5, 6, 7]), (6, [5, 6, 7, 8]), (7, [5, 6, 7, 8, 9]), (8, [5, 6, 7, 8, 9, 10]), (9, [5, 6, 7, 8, 9, 10, 11]), (10, [5, 6, 7, 8, 9, 10, 11, 40]), (11, [5, 6, 7, 8, 9, 10, 11]), (12, [5, 6, 7, 8, 9, 10, 11, 46]), (13, [5, 6, 7, 8, 9, 10, 11, 12]), (14, [5, 6, 7, 8, 9, 10, 11, 12, 13, 14]), (15, [5, 6, 7, 8, 9, 10, 11, 12, 13, 14, 15, 16]), (16, [5, 6, 7, 8, 9, 10, 11, 13, 14, 15, 16, 17, 18]), (17, [5, 6, 7, 8, 9, 10, 11, 13, 15, 17, 90]), (18, [4]), (19, [5, 6, 7, 8, 9, 10, 11, 15, 17]), (20, [5, 6, 7, 8, 9, 10, 11, 17]), (21, [5, 6, 7, 8, 9, 10, 11]), (22, [8, 9, 10, 19, 20]), (23, [4])], []⟩ := Go.Proofs.YthkdbkjkccogfaaDoor.fi10
theorem ty2 : TX.ty 2 = some ⟨.int .i64, 1, 8, [.int .i64 0]⟩ := Go.Proofs.YthkdbkjkccogfaaDoor.ty2
theorem ty3 : TX.ty 3 = some ⟨.int .i64, 1, 8, [.int .i64 0]⟩ := Go.Proofs.YthkdbkjkccogfaaDoor.ty3
theorem ty4 : TX.ty 4 = some ⟨.bool, 1, 1, [.bool false]⟩ := Go.Proofs.YthkdbkjkccogfaaDoor.ty4
theorem ty5 : TX.ty 5 = some ⟨.int .u8, 1, 1, [.int .u8 0]⟩ := Go.Proofs.YthkdbkjkccogfaaDoor.ty5
theorem ty9 : TX.ty 9 = some ⟨.string, 1, 16, [.str []]⟩ := Go.Proofs.YthkdbkjkccogfaaDoor.ty9
theorem ty32 : TX.ty 32 = some ⟨.slice 5, 1, 24, [.nilS]⟩ := Go.Proofs.YthkdbkjkccogfaaDoor.ty32
theorem ty36 : TX.ty 36 = some ⟨.int .u64, 1, 8, [.int .u64 0]⟩ := Go.Proofs.YthkdbkjkccogfaaDoor.ty36
theorem ty67 : TX.ty 67 = some ⟨.slice 9, 1, 24, [.nilS]⟩ := Go.Proofs.YthkdbkjkccogfaaDoor.ty67
noncomputable def b10 : Code := Tryd.f10.body.getD .skip
noncomputable def B10_0 : Code := (bodyC (bodyC (sndC (fstC (sndC (sndC (sndC (sndC (sndC (sndC (sndC (sndC b10))))))))))))
noncomputable def K10_0 : List It := .lp B10_0 :: .blk 0 :: .code (sndC (sndC (sndC (sndC (sndC (sndC (sndC (sndC (sndC b10))))))))) :: []
theorem xl10_0 {fi : FI} {env : Env} {σ : St} : exI TX fi K10_0 env σ = exI TX fi (.code B10_0 :: K10_0) env σ := by unfold K10_0; exact xI_lp
noncomputable def R10_0_0 : List It := .code (sndC (sndC (sndC (sndC (sndC (sndC (sndC (sndC (sndC b10))))))))) :: []
theorem eK10_0_0 : exitA 0 K10_0 = some R10_0_0 := rfl
theorem sbx1 (σ : St) (x : List UInt8) : buildSliceA TX σ 67 1 [(0, .str x)] = some (.sl σ.n 0 1 1, σ.push ⟨[.str x], 1, false⟩) := by
  simp [buildSliceA, ty67, ty9, fillA, repeatCells, putCells, AV.cellsOf, allOne, AV.one]
theorem sbx0 (σ : St) : buildSliceA TX σ 67 0 [] = some (.sl σ.n 0 0 0, σ.push ⟨strs [], 1, false⟩) := by
  simp [buildSliceA, ty67, ty9, fillA, repeatCells, strs]
theorem app_x (σ : St) (a b : AV) : appendA TX σ 67 67 a b = appendA TT σ 67 67 a b := by
  unfold appendA
  rw [ty67, Go.Proofs.YthkdbkjkccogfaaDoor.ty67]
  simp only [ty9, Go.Proofs.YthkdbkjkccogfaaDoor.ty9]
theorem sappx {σ : St} {b n : Nat} {L : List (List UInt8)} {x : List UInt8} (hb : SRow σ b L) (hn : n = L.length) (hs : n < 1000000) :
    ∃ σ', appendA TX (σ.push ⟨[.str x], 1, false⟩) 67 67 (.sl b 0 n n) (.sl σ.n 0 1 1) = some (.sl (σ.n + 1) 0 (n + 1) (n + 1), σ') ∧ SRow σ' (σ.n + 1) (L ++ [x]) ∧ σ'.n = σ.n + 2 ∧ ∀ c, c ≠ b → c < σ.n → σ'.get c = σ.get c := by
  simp only [app_x]; exact sappend hb hn hs
/-- Three rows of texts, apart. -/
def R3 (σ : St) (a b c : Nat) (A B C : List (List UInt8)) : Prop := SRow σ a A ∧ SRow σ b B ∧ SRow σ c C ∧ a ≠ b ∧ a ≠ c ∧ b ≠ c
def E3 (size ones d a b c n v : Nat) : Env := [(5, .int .i64 size), (6, .int .i64 ones), (7, .int .i64 d), (8, .sl a 0 n n), (9, .sl b 0 n n), (10, .sl c 0 n n), (11, .int .i64 v)]
set_option maxHeartbeats 2000000 in
theorem l10 (size ones d : Nat) (hs : size ≤ 8) (ho : ones ≤ 8) (hd : d ≤ 4) (σ0 : St) : ∀ (m v : Nat) (A B C : List (List UInt8)) (σ : St) (a b c n : Nat), v + m = 2 ^ size → n ≤ v → n = A.length → n = B.length → n = C.length → R3 σ a b c A B C →
    ((selN ones m v).map (bsOf size)).all (gdT d) = true → evenS (A ++ ((selN ones m v).map (bsOf size)).map fun t => fpP (prs t)) = true → evenS (B ++ ((selN ones m v).map (bsOf size)).map (fdS d)) = true → evenS (C ++ ((selN ones m v).map (bsOf size)).map fun t => (blkS t).1) = true →
    ∃ σ', exI TX (FI.of Tryd.f10 (TX.an 10)) K10_0 (E3 size ones d a b c n v) σ = some (.bool true, σ') := by
  have hN : 2 ^ size ≤ 2 ^ 8 := Nat.pow_le_pow_right (by decide) hs
  have s1 := sh_1 (b := size) (by omega)
  have s2 : wrapA .u64 (size : Int) = (size : Int) := n_wrapu (by omega)
  intro m
  induction m with
  | zero =>
    intro v A B C σ a b c n hv hnv hA hB hC hr _ e1 e2 e3
    simp only [selN, List.map_nil, List.append_nil] at e1 e2 e3
    have c1 := more (v51 A (by omega) e1 σ [.sl a 0 n n] (by have e0 : mapO (frzV σ frzDepth) [] = some [] := rfl; have e1 := mapO_cons (f := frzV σ frzDepth) (hr.1.frz (d := 4) hA) e0; rw [← hA]; exact e1))
    have c2 := more (v51 B (by omega) e2 σ [.sl b 0 n n] (by have e0 : mapO (frzV σ frzDepth) [] = some [] := rfl; have e1 := mapO_cons (f := frzV σ frzDepth) (hr.2.1.frz (d := 4) hB) e0; rw [← hB]; exact e1))
    have c3 := more (v51 C (by omega) e3 σ [.sl c 0 n n] (by have e0 : mapO (frzV σ frzDepth) [] = some [] := rfl; have e1 := mapO_cons (f := frzV σ frzDepth) (hr.2.2.1.frz (d := 4) hC) e0; rw [← hC]; exact e1))
    have c4 := more (v49 [48, 49, 49, 48] (by decide) 0 (by decide) σ [.str [48, 49, 49, 48], .int .i64 (0 : Nat)] rfl)
    rw [show (if isBits [48, 49, 49, 48] = true then fdS 0 [48, 49, 49, 48] else []) = [] by decide, show isBits [48, 49, 49, 48] = true by decide] at c4
    simp only [show ((0 : Nat) : Int) = 0 from rfl] at c4
    obtain rfl : v = 2 ^ size := by omega
    rw [show pw size = 2 ^ size from rfl] at s1
    generalize 2 ^ size = P at *
    refine ⟨σ, ?_⟩
    unfold E3
    rw [fi10]
    rw [xl10_0]
    simp only [B10_0, b10, Tryd.f10, Option.getD, fstC, sndC, bodyC, thnC, elsC]
    simp [xI_seq, xI_region, xI_ret, regA, regOps, runOps, opStep, wantedA, opA, evo, evos, calleeA, lk, nif_eq, putE, paramsE, valS, val2, keepE, restrict, finA, resA, binA, binInt, ofConst, ofConst1, loadA, TK.isAgg, asVar, unA, builtinA, lenOpA, lenA, ileb_cast, ileb_eq, ieqb_dec, indexAddrA, inB_dec, evPairs, storeA, AV.cellsOf, pairsOf, xI_nil, binBool, gcE, evOpt, tagZ, xI_block, xI_loopH, xI_condM, xI_exitM, xI_skip, xI_blk, exitA, ty2, ty3, ty4, ty9, ty36, ty67, eK10_0_0, convA, ty36, ty2, s1, s2]
    simp only [R10_0_0, b10, Tryd.f10, Option.getD, fstC, sndC, bodyC, thnC, elsC]
    simp [xI_seq, xI_region, xI_ret, regA, regOps, runOps, opStep, wantedA, opA, evo, evos, calleeA, lk, nif_eq, putE, paramsE, valS, val2, keepE, restrict, finA, resA, binA, binInt, ofConst, ofConst1, loadA, TK.isAgg, asVar, unA, builtinA, lenOpA, lenA, ileb_cast, ileb_eq, ieqb_dec, indexAddrA, inB_dec, evPairs, storeA, AV.cellsOf, pairsOf, xI_nil, binBool, gcE, evOpt, tagZ, xI_block, xI_loopH, xI_condM, xI_exitM, xI_skip, xI_blk, exitA, ty2, ty3, ty4, ty9, ty36, ty67, eK10_0_0, binStr, c1, c2, c3, c4]
  | succ m ih =>
    intro v A B C σ a b c n hv hnv hA hB hC hr hg e1 e2 e3
    have hv8 : v < 2 ^ size := by omega
    have w1 := more (v46 (v := v) (by omega) σ [.int .i64 v] rfl)
    have hw : wrapA .i64 ((v : Int) + 1) = (v : Int) + 1 := wrapA_id (by omega) (by omega)
    rw [show pw size = 2 ^ size from rfl] at s1
    have hlt : (v : Int) < ((2 ^ size : Nat) : Int) := by omega
    have hnl : ¬ (((2 ^ size : Nat) : Int) ≤ (v : Int)) := by omega
    have hnl2 : ¬ (2 ^ size ≤ v) := by omega
    by_cases hone : onesN v = ones
    · have k1 : selN ones (m + 1) v = v :: selN ones m (v + 1) := by rw [selN, if_pos hone]
      rw [k1] at hg e1 e2 e3
      simp only [List.map_cons, List.all_cons, Bool.and_eq_true] at hg
      simp only [List.map_cons] at e1 e2 e3
      obtain ⟨g1, g2⟩ := hg
      have w2 := more (v47 hs hv8 σ [.int .i64 v, .int .i64 size] rfl)
      have hbits : isBits (bsOf size v) = true := bsOf_is (by omega)
      have hlen : (bsOf size v).length = size := bsOf_length _ _
      obtain ⟨t, ht⟩ : ∃ t, bsOf size v = t := ⟨_, rfl⟩
      rw [ht] at w2 hbits hlen g1 e1 e2 e3
      have w3 := more (v48 t (by omega) σ [.str t] rfl)
      have w4 := more (v49 t (by omega) d (by omega) σ [.str t, .int .i64 d] rfl)
      have w5 := TXF.v50 t (by omega) hbits σ [.str t] rfl
      rw [hbits] at w3 w4
      simp only [if_true] at w3 w4
      simp only [gdT, Bool.and_eq_true, decide_eq_true_eq, beq_iff_eq] at g1
      obtain ⟨⟨g3, g4⟩, g5⟩ := g1
      rw [g3] at w5
      have f1 := fdS_len d t
      obtain ⟨x, hx⟩ : ∃ x, fpP (prs t) = x := ⟨_, rfl⟩
      obtain ⟨y, hy⟩ : ∃ y, fdS d t = y := ⟨_, rfl⟩
      obtain ⟨z, hz⟩ : ∃ z, (blkS t).1 = z := ⟨_, rfl⟩
      rw [hx] at w3 g4 g5 e1
      rw [hy] at w4 g4 g5 e2 f1
      rw [hz] at w5 e3
      obtain ⟨r1, r2, r3, q1, q2, q3⟩ := hr
      obtain ⟨τ1, a1, t1, n1, o1⟩ := sappx (x := x) r1 hA (by omega)
      have l1 := r1.lt
      have l2 := r2.lt
      have l3 := r3.lt
      have t2 := r2.keep (σ' := τ1) (by omega) (o1 b (fun e => q1 e.symm) l2)
      have t3 := r3.keep (σ' := τ1) (by omega) (o1 c (fun e => q2 e.symm) l3)
      obtain ⟨τ2, a2, u2, n2, o2⟩ := sappx (x := y) t2 hB (by omega)
      have u1 := t1.keep (σ' := τ2) (by omega) (o2 _ (by omega) (by omega))
      have u3 := t3.keep (σ' := τ2) (by omega) (o2 c (fun e => q3 e.symm) (by omega))
      obtain ⟨τ3, a3, x3, n3, o3⟩ := sappx (x := z) u3 hC (by omega)
      have x1 := u1.keep (σ' := τ3) (by omega) (o3 _ (by omega) (by omega))
      have x2 := u2.keep (σ' := τ3) (by omega) (o3 _ (by omega) (by omega))
      obtain ⟨σ', h1⟩ := ih (v + 1) (A ++ [x]) (B ++ [y]) (C ++ [z]) τ3 (σ.n + 1) (τ1.n + 1) (τ2.n + 1) (n + 1) (by omega) (by omega) (by simp; omega) (by simp; omega) (by simp; omega) ⟨x1, x2, x3, by omega, by omega, by omega⟩ g2 (by rw [List.append_assoc]; exact e1) (by rw [List.append_assoc]; exact e2) (by rw [List.append_assoc]; exact e3)
      refine ⟨σ', ?_⟩
      rw [← h1]
      clear h1 ih e1 e2 e3 g2 k1 f1
      have hsl : ∀ σ : St, sliceA TX σ 9 (.str y) none (some (.int .i64 (x.length : Int))) = some (.str x) := by
        intro σ
        have q1 : (x.length : Int) ≤ (y.length : Int) := by omega
        simp [sliceA, ty9, boundA, q1, g4, g5]
      have hne : binStr .neq x x = some (.bool false) := by simp [binStr]
      have hyl : ¬ ((y.length : Int) < (x.length : Int)) := by omega
      have hyl2 : ¬ (y.length < x.length) := by omega
      rw [hone] at w1
      clear g5 hx hy hz ht hlen r1 r2 r3 t1 t2 t3 u1 u2 u3 x1 x2 x3 o1 o2 o3 hv hv8
      unfold E3
      rw [show ((v + 1 : Nat) : Int) = (v : Int) + 1 by omega]
      generalize 2 ^ size = P at *
      generalize hxl : x.length = xl at *
      generalize hylg : y.length = yl at *
      rw [fi10]
      conv => lhs; rw [xl10_0]
      simp only [B10_0, b10, Tryd.f10, Option.getD, fstC, sndC, bodyC, thnC, elsC]
      simp [xI_seq, xI_region, xI_ret, regA, regOps, runOps, opStep, wantedA, opA, evo, evos, calleeA, lk, nif_eq, putE, paramsE, valS, val2, keepE, restrict, finA, resA, binA, binInt, ofConst, ofConst1, loadA, TK.isAgg, asVar, unA, builtinA, lenOpA, lenA, ileb_cast, ileb_eq, ieqb_dec, indexAddrA, inB_dec, evPairs, storeA, AV.cellsOf, pairsOf, xI_nil, binBool, gcE, evOpt, tagZ, xI_block, xI_loopH, xI_condM, xI_exitM, xI_skip, xI_blk, exitA, ty2, ty3, ty4, ty9, ty36, ty67, eK10_0_0, convA, ty36, ty2, ty9, s1, s2, hlt, hnl, hnl2, hw, w1, w2, w3, w4, w5, hsl, hne, hyl, hyl2, g4, hxl, hylg, sbx1, a1, a2, a3]
    · have k1 : selN ones (m + 1) v = selN ones m (v + 1) := by rw [selN, if_neg hone]
      rw [k1] at hg e1 e2 e3
      obtain ⟨σ', h1⟩ := ih (v + 1) A B C σ a b c n (by omega) (by omega) hA hB hC hr hg e1 e2 e3
      refine ⟨σ', ?_⟩
      rw [← h1]
      clear h1 ih e1 e2 e3 hg k1
      have hne : ¬ ((onesN v : Nat) : Int) = (ones : Int) := by omega
      unfold E3
      rw [show ((v + 1 : Nat) : Int) = (v : Int) + 1 by omega]
      generalize 2 ^ size = P at *
      generalize onesN v = on at *
      rw [fi10]
      conv => lhs; rw [xl10_0]
      simp only [B10_0, b10, Tryd.f10, Option.getD, fstC, sndC, bodyC, thnC, elsC]
      simp [xI_seq, xI_region, xI_ret, regA, regOps, runOps, opStep, wantedA, opA, evo, evos, calleeA, lk, nif_eq, putE, paramsE, valS, val2, keepE, restrict, finA, resA, binA, binInt, ofConst, ofConst1, loadA, TK.isAgg, asVar, unA, builtinA, lenOpA, lenA, ileb_cast, ileb_eq, ieqb_dec, indexAddrA, inB_dec, evPairs, storeA, AV.cellsOf, pairsOf, xI_nil, binBool, gcE, evOpt, tagZ, xI_block, xI_loopH, xI_condM, xI_exitM, xI_skip, xI_blk, exitA, ty2, ty3, ty4, ty9, ty36, ty67, eK10_0_0, convA, ty36, ty2, ty9, s1, s2, hlt, hnl, hnl2, hw, w1, hne, hone]
theorem w10 (code : List Nat) (hb : ∀ x ∈ code, x < 256) (more_ : List Nat) (hm : ∀ x ∈ more_, x < 256) : FnV TX 10 [.lst code.length (byts code), .lst more_.length (byts more_)] (.bool true) := by
  refine FnV.mk fn10 rfl md10 ?_ (fun _ => rfl) rfl
  have cl := more (v18 code more_ ⟨[], 0⟩ [.lst code.length (byts code), .lst more_.length (byts more_)] rfl)
  by_cases hlong : 48 < code.length ∨ 48 < more_.length
  · have e : (decide (48 < code.length) || decide (48 < more_.length)) = true := by simpa using hlong
    rw [e] at cl
    refine ⟨⟨[], 0⟩, ?_⟩
    rw [fi10]
    simp [xI_seq, xI_region, xI_ret, regA, regOps, runOps, opStep, wantedA, opA, evo, evos, calleeA, lk, nif_eq, putE, paramsE, valS, val2, keepE, restrict, finA, resA, binA, binInt, ofConst, ofConst1, loadA, TK.isAgg, asVar, unA, builtinA, lenOpA, lenA, ileb_cast, ileb_eq, ieqb_dec, indexAddrA, inB_dec, evPairs, storeA, AV.cellsOf, pairsOf, xI_nil, binBool, gcE, evOpt, tagZ, xI_block, xI_loopH, xI_condM, xI_exitM, xI_skip, xI_blk, exitA, ty2, ty3, ty4, ty9, ty36, ty67, eK10_0_0, runTr, pairsOk, pairOk, lstAt, lastOf, sameVal, AV.eqv, eqvs, eqvs_ints, regOps, blt_dec, cond_true, cond_false, fieldAddrA, allOne, AV.one, buildA, sizesOf, fillA, putCells, n_push, indexA, ty2, ty27, ty9, ty5, ty3, ty36, cl]
  · have e : (decide (48 < code.length) || decide (48 < more_.length)) = false := by simp; omega
    rw [e] at cl
    obtain ⟨size, hs, v1⟩ := v23 code hb (by omega) 0 (by decide) 9 (by decide)
    replace hs : size ≤ 8 := by omega
    have c1 := more (v1 ⟨[], 0⟩ [.lst code.length (byts code), .int .i64 (0 : Nat), .int .i64 (9 : Nat)] rfl)
    obtain ⟨ones, ho, v2⟩ := v23 code hb (by omega) 1 (by decide) (size + 1) (by omega)
    replace ho : ones ≤ size := by omega
    have c2 := more (v2 ⟨[], 0⟩ [.lst code.length (byts code), .int .i64 (1 : Nat), .int .i64 (size + 1 : Nat)] rfl)
    obtain ⟨q, hq, v3⟩ := v23 more_ hm (by omega) 0 (by decide) 4 (by decide)
    replace hq : q < 4 := by omega
    have c3 := more (v3 ⟨[], 0⟩ [.lst more_.length (byts more_), .int .i64 (0 : Nat), .int .i64 (4 : Nat)] rfl)
    have la := List.all_eq_true.1 (List.all_eq_true.1 law_a size (List.mem_range.2 (by omega))) ones (List.mem_range.2 (by omega))
    have lb := List.all_eq_true.1 (List.all_eq_true.1 (List.all_eq_true.1 law_b size (List.mem_range.2 (by omega))) ones (List.mem_range.2 (by omega))) q (List.mem_range.2 hq)
    simp only [lawA, lawB, Bool.and_eq_true] at la lb
    obtain ⟨la1, la2⟩ := la
    obtain ⟨lb1, lb2⟩ := lb
    have z0 := sbx0 ⟨[], 0⟩
    obtain ⟨σ1, e1⟩ : ∃ σ1, (⟨[], 0⟩ : St).push ⟨strs [], 1, false⟩ = σ1 := ⟨_, rfl⟩
    obtain ⟨σ2, e2⟩ : ∃ σ2, σ1.push ⟨strs [], 1, false⟩ = σ2 := ⟨_, rfl⟩
    obtain ⟨σ3, e3⟩ : ∃ σ3, σ2.push ⟨strs [], 1, false⟩ = σ3 := ⟨_, rfl⟩
    have n1 : σ1.n = 1 := by subst e1; rfl
    have n2 : σ2.n = 2 := by subst e2; show σ1.n + 1 = 2; omega
    have r1 : SRow σ3 0 [] := by
      refine ⟨false, ?_, ?_⟩
      · subst e3; rw [get_push_lt (by omega)]; subst e2; rw [get_push_lt (by omega)]; subst e1; exact get_push_same
      · subst e3; show 0 < σ2.n + 1; omega
    have r2 : SRow σ3 1 [] := by
      refine ⟨false, ?_, ?_⟩
      · subst e3; rw [get_push_lt (by omega)]; subst e2; rw [← n1]; exact get_push_same
      · subst e3; show 1 < σ2.n + 1; omega
    have r3 : SRow σ3 2 [] := by
      refine ⟨false, ?_, ?_⟩
      · subst e3; rw [← n2]; exact get_push_same
      · subst e3; show 2 < σ2.n + 1; omega
    obtain ⟨σ', h⟩ := l10 size ones (q + 1) hs (by omega) (by omega) ⟨[], 0⟩ (2 ^ size) 0 [] [] [] σ3 0 1 2 0 (by omega) (Nat.le_refl _) rfl rfl rfl ⟨r1, r2, r3, by decide, by decide, by decide⟩ lb1 la1 lb2 la2
    refine ⟨σ', ?_⟩
    have hw1 : wrapA .i64 ((size : Int) + 1) = ((size + 1 : Nat) : Int) := by rw [wrapA_id (by omega) (by omega)]; omega
    have hw2 : wrapA .i64 (1 + (q : Int)) = ((q + 1 : Nat) : Int) := by rw [wrapA_id (by omega) (by omega)]; omega
    have hw3 : wrapA .i64 (size : Int) = (size : Int) := wrapA_id (by omega) (by omega)
    have b1 : buildSliceA TX σ1 67 0 [] = some (.sl 1 0 0 0, σ2) := by rw [sbx0, n1, e2]
    have b2 : buildSliceA TX σ2 67 0 [] = some (.sl 2 0 0 0, σ3) := by rw [sbx0, n2, e3]
    have b0 : buildSliceA TX ⟨[], 0⟩ 67 0 [] = some (.sl 0 0 0 0, σ1) := by rw [sbx0, e1]
    rw [← h]
    unfold E3
    simp only [show ((0 : Nat) : Int) = 0 from rfl, show ((9 : Nat) : Int) = 9 from rfl, show ((1 : Nat) : Int) = 1 from rfl, show ((4 : Nat) : Int) = 4 from rfl] at c1 c2 c3
    clear h la1 la2 lb1 lb2 v1 v2 v3 e1 e2 e3 z0 r1 r2 r3
    generalize size + 1 = s1 at *
    generalize q + 1 = d at *
    rw [fi10]
    simp [xI_seq, xI_region, xI_ret, regA, regOps, runOps, opStep, wantedA, opA, evo, evos, calleeA, lk, nif_eq, putE, paramsE, valS, val2, keepE, restrict, finA, resA, binA, binInt, ofConst, ofConst1, loadA, TK.isAgg, asVar, unA, builtinA, lenOpA, lenA, ileb_cast, ileb_eq, ieqb_dec, indexAddrA, inB_dec, evPairs, storeA, AV.cellsOf, pairsOf, xI_nil, binBool, gcE, evOpt, tagZ, xI_block, xI_loopH, xI_condM, xI_exitM, xI_skip, xI_blk, exitA, ty2, ty3, ty4, ty9, ty36, ty67, eK10_0_0, convA, ty2, ty67, cl, c1, c2, c3, hw1, hw2, hw3, b0, b1, b2]
    rfl
end TXG

end Go.Proofs.YthkdbkjkccogfaaDoor
