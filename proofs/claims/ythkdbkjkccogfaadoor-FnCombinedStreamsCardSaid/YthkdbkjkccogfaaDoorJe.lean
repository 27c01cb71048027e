/- The law of combined streams. Nothing is claimed here; no condition. -/
import Derived.Test.YthkdbkjkccogfaaDoorJf
namespace Go.Proofs.YthkdbkjkccogfaaDoor
open Go Go.Abs
set_option linter.unusedSimpArgs false
set_option linter.unusedVariables false
open Go.Wd
namespace TXG
theorem fn9 : TX.fn 9 = some Tryd.f9 := Go.Proofs.YthkdbkjkccogfaaDoor.fn9
theorem md9 : (TX.an 9).mode = 1 := Go.Proofs.YthkdbkjkccogfaaDoor.md9
theorem fi9 : FI.of Tryd.f9 (TX.an 9) = ⟨[.tmp 4], 186, [(0, [0, 1]), (1, [0, 1, 28]), (2, [4]), (3, [1, 5]), (4, [1, 5, 6, 7]), (5, [1, 5, 6, 45]), (6, [4]), (7, [1, 5, 6, 8]), (8, [1, 5, 6, 8, 9]), (9, [1, 5, 6, 8, 9, 10]), (10, [1, 5, 6, 8, 9, 10, 11]), (11, [1, 5, 6, 8, 9, 10, 11, 53]), (12, [1, 5, 6, 8, 9, 10, 11]), (13, [1, 5, 6, 8, 9, 10, 11, 12]), (14, [1, 5, 6, 8, 9, 10, 11, 12, 13, 14]), (15, [1, 5, 6, 8, 9, 10, 11, 12, 13, 79]), (16, [4]), (17, [1, 5, 6, 8, 9, 10, 11, 12]), (18, [1, 5, 6, 8, 9, 10, 11]), (19, [5, 6, 9, 10, 15, 16]), (20, [5, 6, 9, 15, 16, 17, 18]), (21, [5, 6, 9, 15, 17, 123]), (22, [4]), (23, [5, 6, 9, 15, 17, 125]), (24, [4]), (25, [5, 6, 9, 15, 17, 19]), (26, [5, 6, 9, 15, 17, 19, 127]), (27, [5, 6, 9, 15, 17, 19]), (28, [5, 6, 9, 15, 17, 19, 20]), (29, [5, 6, 9, 15, 17, 19, 20, 21]), (30, [5, 6, 9, 15, 17, 19, 20, 21, 132]), (31, [5, 6, 9, 15, 17, 19, 20, 21]), (32, [5, 6, 9, 15, 17, 19, 20, 21]), (33, [5, 6, 9, 15, 17, 19, 154]), (34, [4]), (35, [15, 17, 22, 23]), (36, [15, 17, 22, 23, 24, 25]), (37, [4])], [(14, [(0, 8)])]⟩ := Go.Proofs.YthkdbkjkccogfaaDoor.fi9
theorem ty2 : TX.ty 2 = some ⟨.int .i64, 1, 8, [.int .i64 0]⟩ := Go.Proofs.YthkdbkjkccogfaaDoor.ty2
theorem ty3 : TX.ty 3 = some ⟨.int .i64, 1, 8, [.int .i64 0]⟩ := Go.Proofs.YthkdbkjkccogfaaDoor.ty3
theorem ty4 : TX.ty 4 = some ⟨.bool, 1, 1, [.bool false]⟩ := Go.Proofs.YthkdbkjkccogfaaDoor.ty4
theorem ty5 : TX.ty 5 = some ⟨.int .u8, 1, 1, [.int .u8 0]⟩ := Go.Proofs.YthkdbkjkccogfaaDoor.ty5
theorem ty9 : TX.ty 9 = some ⟨.string, 1, 16, [.str []]⟩ := Go.Proofs.YthkdbkjkccogfaaDoor.ty9
theorem ty24 : TX.ty 24 = some ⟨.slice 2, 1, 24, [.nilS]⟩ := Go.Proofs.YthkdbkjkccogfaaDoor.ty24
theorem ty27 : TX.ty 27 = some ⟨.struct [(2, 0), (2, 1)], 2, 16, [.int .i64 0, .int .i64 0]⟩ := Go.Proofs.YthkdbkjkccogfaaDoor.ty27
theorem ty32 : TX.ty 32 = some ⟨.slice 5, 1, 24, [.nilS]⟩ := Go.Proofs.YthkdbkjkccogfaaDoor.ty32
theorem ty36 : TX.ty 36 = some ⟨.int .u64, 1, 8, [.int .u64 0]⟩ := Go.Proofs.YthkdbkjkccogfaaDoor.ty36
theorem ty65 : TX.ty 65 = some ⟨.slice 27, 1, 24, [.nilS]⟩ := Go.Proofs.YthkdbkjkccogfaaDoor.ty65
theorem ty67 : TX.ty 67 = some ⟨.slice 9, 1, 24, [.nilS]⟩ := Go.Proofs.YthkdbkjkccogfaaDoor.ty67
noncomputable def b9 : Code := Tryd.f9.body.getD .skip
noncomputable def B9_0 : Code := (bodyC (bodyC (sndC (fstC (sndC (sndC (sndC (sndC (sndC (sndC (sndC (sndC b9))))))))))))
noncomputable def K9_0 : List It := .lp B9_0 :: .blk 0 :: .code (sndC (sndC (sndC (sndC (sndC (sndC (sndC (sndC (sndC b9))))))))) :: []
theorem xl9_0 {fi : FI} {env : Env} {σ : St} : exI TX fi K9_0 env σ = exI TX fi (.code B9_0 :: K9_0) env σ := by unfold K9_0; exact xI_lp
noncomputable def R9_0_0 : List It := .code (sndC (sndC (sndC (sndC (sndC (sndC (sndC (sndC (sndC b9))))))))) :: []
theorem eK9_0_0 : exitA 0 K9_0 = some R9_0_0 := rfl
noncomputable def B9_1 : Code := (bodyC (bodyC (sndC (fstC (sndC (sndC (sndC (sndC (sndC (sndC (sndC (sndC (sndC (sndC (sndC (sndC (sndC b9)))))))))))))))))
noncomputable def K9_1 : List It := .lp B9_1 :: .blk 2 :: .code (sndC (sndC (sndC (sndC (sndC (sndC (sndC (sndC (sndC (sndC (sndC (sndC (sndC (sndC b9)))))))))))))) :: []
theorem xl9_1 {fi : FI} {env : Env} {σ : St} : exI TX fi K9_1 env σ = exI TX fi (.code B9_1 :: K9_1) env σ := by unfold K9_1; exact xI_lp
noncomputable def R9_1_2 : List It := .code (sndC (sndC (sndC (sndC (sndC (sndC (sndC (sndC (sndC (sndC (sndC (sndC (sndC (sndC b9)))))))))))))) :: []
theorem eK9_1_2 : exitA 2 K9_1 = some R9_1_2 := rfl
noncomputable def B9_2 : Code := (bodyC (bodyC (sndC (fstC (sndC (bodyC (fstC (sndC (bodyC (bodyC (sndC (fstC (sndC (sndC (sndC (sndC (sndC (sndC (sndC (sndC (sndC (sndC (sndC (sndC (sndC b9)))))))))))))))))))))))))
noncomputable def K9_2 : List It := .lp B9_2 :: .blk 4 :: .code (sndC (sndC (bodyC (fstC (sndC (bodyC (bodyC (sndC (fstC (sndC (sndC (sndC (sndC (sndC (sndC (sndC (sndC (sndC (sndC (sndC (sndC (sndC b9)))))))))))))))))))))) :: .blk 3 :: .code (sndC (sndC (bodyC (bodyC (sndC (fstC (sndC (sndC (sndC (sndC (sndC (sndC (sndC (sndC (sndC (sndC (sndC (sndC (sndC b9))))))))))))))))))) :: K9_1
theorem xl9_2 {fi : FI} {env : Env} {σ : St} : exI TX fi K9_2 env σ = exI TX fi (.code B9_2 :: K9_2) env σ := by unfold K9_2; exact xI_lp
noncomputable def R9_2_4 : List It := .code (sndC (sndC (bodyC (fstC (sndC (bodyC (bodyC (sndC (fstC (sndC (sndC (sndC (sndC (sndC (sndC (sndC (sndC (sndC (sndC (sndC (sndC (sndC b9)))))))))))))))))))))) :: .blk 3 :: .code (sndC (sndC (bodyC (bodyC (sndC (fstC (sndC (sndC (sndC (sndC (sndC (sndC (sndC (sndC (sndC (sndC (sndC (sndC (sndC b9))))))))))))))))))) :: K9_1
theorem eK9_2_4 : exitA 4 K9_2 = some R9_2_4 := rfl
noncomputable def R9_2_3 : List It := .code (sndC (sndC (bodyC (bodyC (sndC (fstC (sndC (sndC (sndC (sndC (sndC (sndC (sndC (sndC (sndC (sndC (sndC (sndC (sndC b9))))))))))))))))))) :: K9_1
theorem eK9_2_3 : exitA 3 K9_2 = some R9_2_3 := rfl
theorem eK9_2_2 : exitA 2 K9_2 = some R9_1_2 := rfl
theorem sbx1 (σ : St) (x : List UInt8) : buildSliceA TX σ 67 1 [(0, .str x)] = some (.sl σ.n 0 1 1, σ.push ⟨[.str x], 1, false⟩) := by
  simp [buildSliceA, ty67, ty9, fillA, repeatCells, putCells, AV.cellsOf, allOne, AV.one]
theorem sbx0 (σ : St) : buildSliceA TX σ 67 0 [] = some (.sl σ.n 0 0 0, σ.push ⟨strs [], 1, false⟩) := by
  simp [buildSliceA, ty67, ty9, fillA, repeatCells, strs]
theorem ibx1 (σ : St) (x : Int) : buildSliceA TX σ 24 1 [(0, .int .i64 x)] = some (.sl σ.n 0 1 1, σ.push ⟨[.int .i64 x], 1, false⟩) := build_one ty24 ty2
theorem ibx0 (σ : St) : buildSliceA TX σ 24 0 [] = some (.sl σ.n 0 0 0, σ.push ⟨ints [], 1, false⟩) := build_nil ty24 ty2
theorem app_x (σ : St) (a b : AV) : appendA TX σ 67 67 a b = appendA TT σ 67 67 a b := by
  unfold appendA
  rw [ty67, Go.Proofs.YthkdbkjkccogfaaDoor.ty67]
  simp only [ty9, Go.Proofs.YthkdbkjkccogfaaDoor.ty9]
theorem sappx {σ : St} {b n : Nat} {L : List (List UInt8)} {x : List UInt8} (hb : SRow σ b L) (hn : n = L.length) (hs : n < 1000000) :
    ∃ σ', appendA TX (σ.push ⟨[.str x], 1, false⟩) 67 67 (.sl b 0 n n) (.sl σ.n 0 1 1) = some (.sl (σ.n + 1) 0 (n + 1) (n + 1), σ') ∧ SRow σ' (σ.n + 1) (L ++ [x]) ∧ σ'.n = σ.n + 2 ∧ ∀ c, c ≠ b → c < σ.n → σ'.get c = σ.get c := by
  simp only [app_x]; exact sappend hb hn hs
theorem srow_read {σ : St} {b i : Nat} {L : List (List UInt8)} {x : List UInt8} (h : SRow σ b L) (hx : L[i]? = some x) : cellsAt σ (.ptr b i) 1 = some [.str x] := by
  obtain ⟨o, hg, _⟩ := h
  obtain ⟨hi, hx⟩ := List.getElem?_eq_some_iff.1 hx
  simp only [cellsAt, hg]
  rw [getCells_eq, if_pos (by simp [strs_length]; omega)]
  simp only [strs, ← List.map_drop, ← List.map_take]
  rw [List.drop_eq_getElem_cons hi, hx]
  rfl
def E0 (tb : List UInt8) (mo : List Nat) (R : List (Nat × Nat)) (n a b k : Nat) : Env := [(1, .lst mo.length (byts mo)), (5, .str tb), (6, .int .i64 n), (8, .lst n (rgs R)), (9, .sl a 0 k k), (10, .sl b 0 k k), (11, .int .i64 k)]
def Z0 (tb : List UInt8) (mo : List Nat) (R : List (Nat × Nat)) (n a b : Nat) : Env := [(1, .lst mo.length (byts mo)), (5, .str tb), (6, .int .i64 n), (8, .lst n (rgs R)), (9, .sl a 0 n n), (10, .sl b 0 n n), (11, .int .i64 n), (53, .bool false)]
set_option maxHeartbeats 2000000 in
theorem l9_0 (tb : List UInt8) (mo : List Nat) (hm : ∀ x ∈ mo, x < 256) (hml : mo.length ≤ 48) (R : List (Nat × Nat)) (n : Nat) (hn : n ≤ 4) (hR : n = R.length) (hg : Rgd R) : ∀ (m k : Nat) (Q : List (Nat × Nat × Nat)) (σ : St) (a b : Nat), k + m = n → k = Q.length → Qgd Q → a ≠ b → SRow σ a (Q.map stO) → Row σ b (nints (Q.map (·.1))) →
    ∃ (σ' : St) (a' b' : Nat) (Q' : List (Nat × Nat × Nat)), exI TX (FI.of Tryd.f9 (TX.an 9)) K9_0 (E0 tb mo R n a b k) σ = exI TX (FI.of Tryd.f9 (TX.an 9)) R9_0_0 (Z0 tb mo R n a' b') σ' ∧ n = Q'.length ∧ Qgd Q' ∧ SRow σ' a' (Q'.map stO) ∧ Row σ' b' (nints (Q'.map (·.1))) := by
  intro m
  induction m with
  | zero =>
    intro k Q σ a b hk hQ hq hab h1 h2
    obtain rfl : k = n := by omega
    refine ⟨σ, a, b, Q, ?_, hQ, hq, h1, h2⟩
    unfold E0 Z0
    rw [fi9]
    conv => lhs; rw [xl9_0]
    simp only [B9_0, b9, Tryd.f9, Option.getD, fstC, sndC, bodyC, thnC, elsC]
    simp [xI_seq, xI_region, xI_ret, regA, regOps, runOps, opStep, wantedA, opA, evo, evos, calleeA, lk, nif_eq, putE, paramsE, valS, val2, keepE, restrict, finA, resA, binA, binInt, ofConst, ofConst1, loadA, TK.isAgg, asVar, unA, builtinA, lenOpA, lenA, ileb_cast, ileb_eq, ieqb_dec, indexAddrA, inB_dec, evPairs, storeA, AV.cellsOf, pairsOf, xI_nil, binBool, gcE, evOpt, tagZ, xI_block, xI_loopH, xI_condM, xI_exitM, xI_skip, xI_blk, exitA, ty2, ty3, ty4, ty5, ty9, ty24, ty27, ty36, ty65, ty67, eK9_0_0, eK9_1_2, eK9_2_4, eK9_2_3, eK9_2_2]
  | succ m ih =>
    intro k Q σ a b hk hQ hq hab h1 h2
    obtain ⟨⟨w, t⟩, hwt⟩ : ∃ q, R[k]? = some q := ⟨_, List.getElem?_eq_getElem (by omega)⟩
    obtain ⟨w1, w3, ht⟩ := hg _ (List.mem_of_getElem? hwt)
    simp only at w1 w3 ht
    have rd : ∀ σ : St, cellsAt σ (.lp (rgs R) (k * 2)) 2 = some [.int .i64 w, .int .i64 t] := fun σ => rgs_read hwt
    have l1 := h1.lt
    have l2 := h2.lt
    obtain ⟨σ4, e4⟩ : ∃ σ4, σ.push ⟨[.int .i64 0, .int .i64 0], 2, false⟩ = σ4 := ⟨_, rfl⟩
    have n4 : σ4.n = σ.n + 1 := by subst e4; rfl
    obtain ⟨D0, hD⟩ : ∃ D0, σ.n = D0 := ⟨_, rfl⟩
    have Q4 : RGB σ4 D0 0 0 := by
      have h := get_push_same (σ := σ) (x := ⟨[.int .i64 0, .int .i64 0], 2, false⟩)
      rw [hD] at h; subst e4; exact h
    obtain ⟨σ5, c5, Q5, n5, u5⟩ := Q4.s2 w t
    have q5 := Q5.c0
    have q6 := Q5.cc
    have r1 := h1.keep (σ' := σ5) (by omega) ((u5 a (by omega)).trans (by subst e4; exact get_push_lt l1))
    have r2 := h2.keep (σ' := σ5) (by omega) ((u5 b (by omega)).trans (by subst e4; exact get_push_lt l2))
    have hp2 : pw w ≤ 2 ^ 3 := Nat.pow_le_pow_right (by decide) (by omega)
    have hp1 := pw_pos w
    obtain ⟨x, hx, va⟩ := v23 mo hm (by omega) (k + 20) (by omega) (pw w) (by omega)
    replace hx : x < pw w := by omega
    have ca := more (va σ5 [.lst mo.length (byts mo), .int .i64 (k + 20 : Nat), .int .i64 (pw w : Nat)] rfl)
    have hok : rbOk w t x 32 = true := rbOk_of (n := 32) (by omega) ht hx (by decide)
    have cr := more (v21 w t x 32 σ5 [.agg [.int .i64 w, .int .i64 t], .int .i64 x, .int .i64 32] rfl)
    have hrb : rbV (w : Int) (t : Int) (x : Int) 32 = outR w t 32 x := rbV_yes (n := 32) hok
    rw [hok, hrb] at cr
    have hol := outR_length w t 32 x
    obtain ⟨σ6, a6, s6, n6, o6⟩ := sappx (x := outR w t 32 x) (n := k) r1 (by rw [List.length_map]; exact hQ) (by omega)
    have l5 := r2.lt
    have t2 := r2.keep (σ' := σ6) (by omega) (o6 b (fun e => hab e.symm) l5)
    have hD5 : D0 < σ5.n := by omega
    have q7 : cellsAt σ6 (.ptr D0 0) 1 = some [.int .i64 w] := by
      have := (o6 D0 (by omega) hD5).trans Q5
      simp [cellsAt, this, getCells, takeN, dropN]
    obtain ⟨σ7, a7, s7, n7, o7⟩ := nints_append_row (T := TX) (x := w) ty24 ty2 t2 (n := k) (by rw [List.length_map]; exact hQ) (by omega)
    have s6' := s6.keep (σ' := σ7) (by omega) (o7 _ (by omega) s6.lt)
    obtain ⟨σ', a', b', Q', e1, e2, e3, e4', e5⟩ := ih (k + 1) (Q ++ [(w, t, x)]) σ7 (σ5.n + 1) (σ6.n + 1) (by omega) (by simp; omega) (by
      intro q hq'
      rcases List.mem_append.1 hq' with h | h
      · exact hq q h
      · rw [List.mem_singleton.1 h]; exact ⟨w1, w3, ht, hx⟩) (by omega) (by rw [List.map_append]; exact s6') (by rw [List.map_append]; exact s7)
    refine ⟨σ', a', b', Q', ?_, e2, e3, e4', e5⟩
    rw [← e1]
    clear e1 e2 e3 e4' e5 ih va hq h1 h2 r1 r2 s6 s6' s7 t2 Q4 Q5 o6 o7 u5 hg
    have hw1 : wrapA .i64 ((k : Int) + 20) = ((k + 20 : Nat) : Int) := by rw [wrapA_id (by omega) (by omega)]; omega
    have hwk : wrapA .i64 ((k : Int) + 1) = (k : Int) + 1 := wrapA_id (by omega) (by omega)
    have s1 := sh_1 (b := w) (by omega)
    have s2 : wrapA .u64 (w : Int) = (w : Int) := n_wrapu (by omega)
    have convU : ∀ σ, convA TX σ 2 36 (.int .i64 (w : Int)) = some (.int .u64 (w : Int), σ) := fun σ => by simp [convA, ty2, ty36, s2]
    have hlt : (k : Int) < (n : Int) := by omega
    have hlt2 : k < n := by omega
    have hnl : ¬ n ≤ k := by omega
    unfold E0
    rw [show ((k + 1 : Nat) : Int) = (k : Int) + 1 by omega]
    generalize k + 20 = k20 at *
    generalize hor : outR w t 32 x = ot at *
    generalize pw w = P at *
    rw [fi9]
    conv => lhs; rw [xl9_0]
    simp only [B9_0, b9, Tryd.f9, Option.getD, fstC, sndC, bodyC, thnC, elsC]
    simp [xI_seq, xI_region, xI_ret, regA, regOps, runOps, opStep, wantedA, opA, evo, evos, calleeA, lk, nif_eq, putE, paramsE, valS, val2, keepE, restrict, finA, resA, binA, binInt, ofConst, ofConst1, loadA, TK.isAgg, asVar, unA, builtinA, lenOpA, lenA, ileb_cast, ileb_eq, ieqb_dec, indexAddrA, inB_dec, evPairs, storeA, AV.cellsOf, pairsOf, xI_nil, binBool, gcE, evOpt, tagZ, xI_block, xI_loopH, xI_condM, xI_exitM, xI_skip, xI_blk, exitA, ty2, ty3, ty4, ty5, ty9, ty24, ty27, ty36, ty65, ty67, eK9_0_0, eK9_1_2, eK9_2_4, eK9_2_3, eK9_2_2, runTr, pairsOk, pairOk, lstAt, lastOf, sameVal, AV.eqv, eqvs, eqvs_ints, regOps, blt_dec, cond_true, cond_false, fieldAddrA, allOne, AV.one, buildA, sizesOf, fillA, putCells, n_push, indexA, ty2, ty27, ty9, ty5, ty3, ty36, ty65, ty67, hw1, hwk, s1, convU, e4, hD, c5, q5, q6, q7, rd, ca, cr, hol, sbx1, a6, ibx1, a7, hlt, hlt2, hnl]
def E1 (tb out : List UInt8) (n a : Nat) (bo : Int) (t : Nat) : Env := [(5, .str tb), (6, .int .i64 n), (9, .sl a 0 n n), (15, .str out), (17, .int .i64 bo), (19, .int .i64 t)]
theorem l9_in (tb out : List UInt8) {L : List (List UInt8)} (hL : Strm L) (h4 : L.length ≤ 4) (a : Nat) (bo : Int) (t : Nat) (ht : t < 32) (σ : St) (hr : SRow σ a L) : ∀ (suf : List (List UInt8)) (i : Nat), L.drop i = suf → i ≤ L.length →
    exI TX (FI.of Tryd.f9 (TX.an 9)) K9_2 (E1 tb out L.length a bo t ++ [(20, .int .i64 (num (sL L t) i : Nat)), (21, .int .i64 i)]) σ = exI TX (FI.of Tryd.f9 (TX.an 9)) R9_2_4 (E1 tb out L.length a bo t ++ [(20, .int .i64 (num (sL L t) L.length : Nat)), (21, .int .i64 L.length), (132, .bool false)]) σ := by
  intro suf
  induction suf with
  | nil =>
    intro i hd hi
    have : (L.drop i).length = 0 := by rw [hd]; rfl
    rw [List.length_drop] at this
    obtain rfl : i = L.length := by omega
    generalize num (sL L t) L.length = x at *
    generalize L.length = n at *
    unfold E1
    simp only [List.cons_append, List.nil_append]
    rw [fi9]
    conv => lhs; rw [xl9_2]
    simp only [B9_2, b9, Tryd.f9, Option.getD, fstC, sndC, bodyC, thnC, elsC]
    simp [xI_seq, xI_region, xI_ret, regA, regOps, runOps, opStep, wantedA, opA, evo, evos, calleeA, lk, nif_eq, putE, paramsE, valS, val2, keepE, restrict, finA, resA, binA, binInt, ofConst, ofConst1, loadA, TK.isAgg, asVar, unA, builtinA, lenOpA, lenA, ileb_cast, ileb_eq, ieqb_dec, indexAddrA, inB_dec, evPairs, storeA, AV.cellsOf, pairsOf, xI_nil, binBool, gcE, evOpt, tagZ, xI_block, xI_loopH, xI_condM, xI_exitM, xI_skip, xI_blk, exitA, ty2, ty3, ty4, ty5, ty9, ty24, ty27, ty36, ty65, ty67, eK9_0_0, eK9_1_2, eK9_2_4, eK9_2_3, eK9_2_2]
  | cons s suf ih =>
    intro i hd hi
    obtain ⟨d1, d2, d3⟩ := dp1 hd
    rw [← ih (i + 1) d3 d1]
    have rr := srow_read hr d2
    obtain ⟨e1, e2⟩ := hL s (List.mem_of_getElem? d2)
    have hb : s[t]? = some (bb (bitf s t).toNat) := bit_get e2 (by omega)
    have hlt : (i : Int) < (L.length : Int) := by omega
    have hnl : ¬ (L.length ≤ i) := by omega
    have hw : wrapA .i64 ((i : Int) + 1) = (i : Int) + 1 := wrapA_id (by omega) (by omega)
    have hN := num_lt (sL L t) i
    have hN2 : 2 ^ i ≤ 2 ^ 4 := Nat.pow_le_pow_right (by decide) (by omega)
    have q := num_or (sL L t) i
    rw [sL_get d2] at q
    have hq : (bitf s t).toNat * 2 ^ i ≤ 1 * 2 ^ 4 := Nat.mul_le_mul (by cases bitf s t <;> decide) hN2
    have s1 := sh_l (a := (bitf s t).toNat) (b := i) (by omega) (by omega)
    have s2 := n_or (a := num (sL L t) i) (b := (bitf s t).toNat * 2 ^ i) (by omega) (by omega)
    have s3 : wrapA .u64 (i : Int) = (i : Int) := n_wrapu (by omega)
    rw [q] at s2
    have w1 : ∀ v : Bool, wrapA .u8 (((bb v.toNat).toNat : Nat) - 48 : Int) = (v.toNat : Nat) := by intro v; cases v <;> rfl
    have w2 : ∀ v : Bool, wrapA .i64 ((v.toNat : Nat) : Int) = (v.toNat : Nat) := by intro v; cases v <;> rfl
    have w1' := w1 (bitf s t)
    have w2' := w2 (bitf s t)
    rw [show ((i + 1 : Nat) : Int) = (i : Int) + 1 by omega]
    have hpos : ¬ (i : Int) < 0 := by omega
    rw [show shlN (bitf s t).toNat i = (bitf s t).toNat * 2 ^ i from rfl] at s1
    clear ih q hq hN hN2 w1 w2 hd d3 hr
    generalize num (sL L t) (i + 1) = x2 at *
    generalize num (sL L t) i = x1 at *
    generalize (bitf s t).toNat * 2 ^ i = y at *
    generalize (bb (bitf s t).toNat) = letter at *
    generalize (bitf s t).toNat = v at *
    generalize L.length = n at *
    unfold E1
    simp only [List.cons_append, List.nil_append]
    rw [fi9]
    conv => lhs; rw [xl9_2]
    simp only [B9_2, b9, Tryd.f9, Option.getD, fstC, sndC, bodyC, thnC, elsC]
    simp [xI_seq, xI_region, xI_ret, regA, regOps, runOps, opStep, wantedA, opA, evo, evos, calleeA, lk, nif_eq, putE, paramsE, valS, val2, keepE, restrict, finA, resA, binA, binInt, ofConst, ofConst1, loadA, TK.isAgg, asVar, unA, builtinA, lenOpA, lenA, ileb_cast, ileb_eq, ieqb_dec, indexAddrA, inB_dec, evPairs, storeA, AV.cellsOf, pairsOf, xI_nil, binBool, gcE, evOpt, tagZ, xI_block, xI_loopH, xI_condM, xI_exitM, xI_skip, xI_blk, exitA, ty2, ty3, ty4, ty5, ty9, ty24, ty27, ty36, ty65, ty67, eK9_0_0, eK9_1_2, eK9_2_4, eK9_2_3, eK9_2_2, runTr, pairsOk, pairOk, lstAt, lastOf, sameVal, AV.eqv, eqvs, eqvs_ints, regOps, blt_dec, cond_true, cond_false, fieldAddrA, allOne, AV.one, buildA, sizesOf, fillA, putCells, n_push, indexA, ty2, ty27, ty9, ty5, ty3, ty36, ty67, convA, hlt, hnl, d1, hw, rr, hb, s1, s2, s3, w1', w2', hpos]
set_option maxHeartbeats 1000000 in
theorem l9_1 {n : Nat} {tb : List UInt8} (hT : Tbl n tb) {L : List (List UInt8)} (hn : n = L.length) (hL : Strm L) (a : Nat) (bo : Nat) (hbo : bmL (cbL tb L) ≤ bo) (hbo2 : bo ≤ 1000000) (σ : St) (hr : SRow σ a L) : ∀ (m t : Nat), t + m = 32 →
    exI TX (FI.of Tryd.f9 (TX.an 9)) K9_1 (E1 tb (cbL tb L) L.length a bo t) σ = some (.bool true, σ) := by
  have h4 : L.length ≤ 4 := by rw [← hn]; exact hT.2.1
  have hol : (cbL tb L).length = 32 := txt_length _ _
  have hob : (cbL tb L).all isBit = true := txt_bits _ _
  intro m
  induction m with
  | zero =>
    intro t ht
    obtain rfl : t = 32 := by omega
    have c1 := more (c27 (cbL tb L) (by omega) hob σ)
    have c2 := more (v45 (cbL tb L) (by omega) hob σ [.str (List.replicate (cbL tb L).length 49), .str (cbL tb L)] rfl)
    have g31 := wdL_get (cbL tb L) 32 31 (by decide)
    rw [show (cbL tb L).take (31 + 1) = cbL tb L from List.take_of_length_le (by omega)] at g31
    rw [hol] at c1 c2
    rw [show List.replicate 32 (49 : UInt8) = [49, 49, 49, 49, 49, 49, 49, 49, 49, 49, 49, 49, 49, 49, 49, 49, 49, 49, 49, 49, 49, 49, 49, 49, 49, 49, 49, 49, 49, 49, 49, 49] from rfl] at c2
    have rd : ∀ σ : St, cellsAt σ (.lp (ints (nints (wdL (cbL tb L) 32))) 31) 1 = some [.int .i64 (bmL (cbL tb L) : Nat)] := fun σ => lst_read (by simp only [nints, List.getElem?_map, g31]; rfl)
    have hle : ((bmL (cbL tb L) : Nat) : Int) ≤ (bo : Int) := by omega
    have hle2 : ¬ ((bo : Int) < ((bmL (cbL tb L) : Nat) : Int)) := by omega
    have heq : binStr .eql (cbL tb L) (cbL tb L) = some (.bool true) := by simp [binStr]
    clear g31 hob hr
    unfold E1
    rw [show ((32 : Nat) : Int) = 32 from rfl]
    generalize bmL (cbL tb L) = z at *
    generalize ints (nints (wdL (cbL tb L) 32)) = cs at *
    generalize cbL tb L = out at *
    generalize L.length = k at *
    rw [fi9]
    rw [xl9_1]
    simp only [B9_1, b9, Tryd.f9, Option.getD, fstC, sndC, bodyC, thnC, elsC]
    simp [xI_seq, xI_region, xI_ret, regA, regOps, runOps, opStep, wantedA, opA, evo, evos, calleeA, lk, nif_eq, putE, paramsE, valS, val2, keepE, restrict, finA, resA, binA, binInt, ofConst, ofConst1, loadA, TK.isAgg, asVar, unA, builtinA, lenOpA, lenA, ileb_cast, ileb_eq, ieqb_dec, indexAddrA, inB_dec, evPairs, storeA, AV.cellsOf, pairsOf, xI_nil, binBool, gcE, evOpt, tagZ, xI_block, xI_loopH, xI_condM, xI_exitM, xI_skip, xI_blk, exitA, ty2, ty3, ty4, ty5, ty9, ty24, ty27, ty36, ty65, ty67, eK9_0_0, eK9_1_2, eK9_2_4, eK9_2_3, eK9_2_2]
    simp only [R9_1_2, b9, Tryd.f9, Option.getD, fstC, sndC, bodyC, thnC, elsC]
    simp [xI_seq, xI_region, xI_ret, regA, regOps, runOps, opStep, wantedA, opA, evo, evos, calleeA, lk, nif_eq, putE, paramsE, valS, val2, keepE, restrict, finA, resA, binA, binInt, ofConst, ofConst1, loadA, TK.isAgg, asVar, unA, builtinA, lenOpA, lenA, ileb_cast, ileb_eq, ieqb_dec, indexAddrA, inB_dec, evPairs, storeA, AV.cellsOf, pairsOf, xI_nil, binBool, gcE, evOpt, tagZ, xI_block, xI_loopH, xI_condM, xI_exitM, xI_skip, xI_blk, exitA, ty2, ty3, ty4, ty5, ty9, ty24, ty27, ty36, ty65, ty67, eK9_0_0, eK9_1_2, eK9_2_4, eK9_2_3, eK9_2_2, runTr, pairsOk, pairOk, lstAt, lastOf, sameVal, AV.eqv, eqvs, eqvs_ints, regOps, blt_dec, cond_true, cond_false, fieldAddrA, allOne, AV.one, buildA, sizesOf, fillA, putCells, n_push, indexA, ty2, ty27, ty9, ty5, ty3, ty36, ty24, c1, c2, rd, hle, hle2, hbo, heq]
  | succ m ih =>
    intro t ht
    have h1 := l9_in tb (cbL tb L) hL h4 a bo t (by omega) σ hr L 0 rfl (Nat.zero_le _)
    have h2 := ih (t + 1) (by omega)
    have hx := num_lt (sL L t) L.length
    have hp2 : pw n = 2 ^ L.length := by rw [hn]; rfl
    have hpn := hT.1
    have htb := bit_get hT.2.2 (i := num (sL L t) L.length) (by omega)
    have hot : (cbL tb L)[t]? = some (bb (bitf tb (num (sL L t) L.length)).toNat) := txt_get (by omega)
    rw [show num (sL L t) 0 = 0 from rfl] at h1
    simp only [show ((0 : Nat) : Int) = 0 from rfl] at h1
    rw [← h2]
    clear h2
    have hw : wrapA .i64 ((t : Int) + 1) = (t : Int) + 1 := wrapA_id (by omega) (by omega)
    have ht32 : (t : Int) < 32 := by omega
    have ht33 : t < 32 := by omega
    have ht34 : ¬ 32 ≤ t := by omega
    clear ih hpn hp2 hx hob hr hbo
    unfold E1 at h1 ⊢
    simp only [List.cons_append, List.nil_append] at h1
    rw [show ((t + 1 : Nat) : Int) = ((t : Int) + 1) by omega]
    generalize bb (bitf tb (num (sL L t) L.length)).toNat = letter at *
    generalize num (sL L t) L.length = x at *
    generalize cbL tb L = out at *
    generalize L.length = k at *
    rw [fi9] at h1 ⊢
    conv => lhs; rw [xl9_1]
    simp only [B9_1, b9, Tryd.f9, Option.getD, fstC, sndC, bodyC, thnC, elsC]
    simp [xI_seq, xI_region, xI_ret, regA, regOps, runOps, opStep, wantedA, opA, evo, evos, calleeA, lk, nif_eq, putE, paramsE, valS, val2, keepE, restrict, finA, resA, binA, binInt, ofConst, ofConst1, loadA, TK.isAgg, asVar, unA, builtinA, lenOpA, lenA, ileb_cast, ileb_eq, ieqb_dec, indexAddrA, inB_dec, evPairs, storeA, AV.cellsOf, pairsOf, xI_nil, binBool, gcE, evOpt, tagZ, xI_block, xI_loopH, xI_condM, xI_exitM, xI_skip, xI_blk, exitA, ty2, ty3, ty4, ty5, ty9, ty24, ty27, ty36, ty65, ty67, eK9_0_0, eK9_1_2, eK9_2_4, eK9_2_3, eK9_2_2, runTr, pairsOk, pairOk, lstAt, lastOf, sameVal, AV.eqv, eqvs, eqvs_ints, regOps, blt_dec, cond_true, cond_false, fieldAddrA, allOne, AV.one, buildA, sizesOf, fillA, putCells, n_push, indexA, ty2, ty27, ty9, ty5, ty3, ty36, ht32, ht33, ht34]
    refine Eq.trans h1 ?_
    simp only [R9_2_4, b9, Tryd.f9, Option.getD, fstC, sndC, bodyC, thnC, elsC]
    simp [xI_seq, xI_region, xI_ret, regA, regOps, runOps, opStep, wantedA, opA, evo, evos, calleeA, lk, nif_eq, putE, paramsE, valS, val2, keepE, restrict, finA, resA, binA, binInt, ofConst, ofConst1, loadA, TK.isAgg, asVar, unA, builtinA, lenOpA, lenA, ileb_cast, ileb_eq, ieqb_dec, indexAddrA, inB_dec, evPairs, storeA, AV.cellsOf, pairsOf, xI_nil, binBool, gcE, evOpt, tagZ, xI_block, xI_loopH, xI_condM, xI_exitM, xI_skip, xI_blk, exitA, ty2, ty3, ty4, ty5, ty9, ty24, ty27, ty36, ty65, ty67, eK9_0_0, eK9_1_2, eK9_2_4, eK9_2_3, eK9_2_2, runTr, pairsOk, pairOk, lstAt, lastOf, sameVal, AV.eqv, eqvs, eqvs_ints, regOps, blt_dec, cond_true, cond_false, fieldAddrA, allOne, AV.one, buildA, sizesOf, fillA, putCells, n_push, indexA, ty2, ty27, ty9, ty5, ty3, ty36, htb, hot, hw]
    try rfl
set_option maxHeartbeats 2000000 in
theorem w9 (code : List Nat) (hb : ∀ x ∈ code, x < 256) (mo : List Nat) (hm : ∀ x ∈ mo, x < 256) : FnV TX 9 [.lst code.length (byts code), .lst mo.length (byts mo)] (.bool true) := by
  refine FnV.mk fn9 rfl md9 ?_ (fun _ => rfl) rfl
  have cl := more (v18 code mo ⟨[], 0⟩ [.lst code.length (byts code), .lst mo.length (byts mo)] rfl)
  by_cases hlong : 48 < code.length ∨ 48 < mo.length
  · have e : (decide (48 < code.length) || decide (48 < mo.length)) = true := by simpa using hlong
    rw [e] at cl
    refine ⟨⟨[], 0⟩, ?_⟩
    rw [fi9]
    simp [xI_seq, xI_region, xI_ret, regA, regOps, runOps, opStep, wantedA, opA, evo, evos, calleeA, lk, nif_eq, putE, paramsE, valS, val2, keepE, restrict, finA, resA, binA, binInt, ofConst, ofConst1, loadA, TK.isAgg, asVar, unA, builtinA, lenOpA, lenA, ileb_cast, ileb_eq, ieqb_dec, indexAddrA, inB_dec, evPairs, storeA, AV.cellsOf, pairsOf, xI_nil, binBool, gcE, evOpt, tagZ, xI_block, xI_loopH, xI_condM, xI_exitM, xI_skip, xI_blk, exitA, ty2, ty3, ty4, ty5, ty9, ty24, ty27, ty36, ty65, ty67, eK9_0_0, eK9_1_2, eK9_2_4, eK9_2_3, eK9_2_2, runTr, pairsOk, pairOk, lstAt, lastOf, sameVal, AV.eqv, eqvs, eqvs_ints, regOps, blt_dec, cond_true, cond_false, fieldAddrA, allOne, AV.one, buildA, sizesOf, fillA, putCells, n_push, indexA, ty2, ty27, ty9, ty5, ty3, ty36, cl]
  · have e : (decide (48 < code.length) || decide (48 < mo.length)) = false := by simp; omega
    rw [e] at cl
    obtain ⟨n, tb, hT, vt⟩ := v40 code hb (by omega)
    have hn := hT.2.1
    have c1 := more (vt ⟨[], 0⟩ [.lst code.length (byts code)] rfl)
    have c2 := more (v41 hT ⟨[], 0⟩ [.str tb] rfl)
    obtain ⟨R, hR, hg, vr⟩ := v42 mo hm (by omega) n hn
    have c3 := more (vr ⟨[], 0⟩ [.lst mo.length (byts mo), .int .i64 n] rfl rfl)
    obtain ⟨σ1, e1⟩ : ∃ σ1, (⟨[], 0⟩ : St).push ⟨strs [], 1, false⟩ = σ1 := ⟨_, rfl⟩
    obtain ⟨σ2, e2⟩ : ∃ σ2, σ1.push ⟨ints [], 1, false⟩ = σ2 := ⟨_, rfl⟩
    have n1 : σ1.n = 1 := by subst e1; rfl
    have r1 : SRow σ2 0 [] := by
      refine ⟨false, ?_, ?_⟩
      · subst e2; rw [get_push_lt (by omega)]; subst e1; exact get_push_same
      · subst e2; show 0 < σ1.n + 1; omega
    have r2 : Row σ2 1 (nints []) := by
      refine ⟨false, ?_, ?_⟩
      · subst e2; rw [← n1]; exact get_push_same
      · subst e2; show 1 < σ1.n + 1; omega
    obtain ⟨σ3, a, b, Q, h0, hQ, hq, q1, q2⟩ := l9_0 tb mo hm (by omega) R n hn hR hg n 0 [] σ2 0 1 (by omega) rfl (fun q hq => by cases hq) (by decide) r1 r2
    have b0 : buildSliceA TX ⟨[], 0⟩ 67 0 [] = some (.sl 0 0 0 0, σ1) := by rw [sbx0, e1]
    have b1 : buildSliceA TX σ1 24 0 [] = some (.sl 1 0 0 0, σ2) := by rw [ibx0, n1, e2]
    have hlm : (Q.map stO).length = n := by rw [List.length_map, hQ]
    have hTQ : Tbl (Q.map (·.1)).length tb := by rw [List.length_map, ← hQ]; exact hT
    have cw := cCW hTQ (σ := σ3) (fun x hx => by obtain ⟨q, hq', rfl⟩ := List.mem_map.1 hx; exact (hq q hq').2.1) q2
    rw [show (Q.map (·.1)).length = n by rw [List.length_map, hQ]] at cw
    have hn0 : ¬ (n : Int) < 0 := by omega
    have hn4 : ¬ (4 : Int) < (n : Int) := by omega
    have hn4b : ¬ 4 < n := by omega
    have hn4c : (n : Int) ≤ 4 := by omega
    have fin : ∃ σ', exI TX (FI.of Tryd.f9 (TX.an 9)) R9_0_0 (Z0 tb mo R n a b) σ3 = some (.bool true, σ') := by
      by_cases hz : n = 0
      · have hL0 : Q = [] := List.length_eq_zero_iff.1 (by omega)
        subst hL0
        have hT0 : Tbl 0 tb := by rw [← hz]; exact hT
        have cb := more (v43n hT0 σ3 [.str tb, .sl a 0 0 0] (by
          have e0 : mapO (frzV σ3 frzDepth) [] = some [] := rfl
          exact mapO_cons (f := frzV σ3 frzDepth) rfl (mapO_cons (q1.frz (d := 4) rfl) e0)))
        rw [hz] at cw
        refine ⟨σ3, ?_⟩
        rw [hz]
        unfold Z0
        generalize cwV tb _ = bo at *
        rw [fi9]
        simp only [R9_0_0, b9, Tryd.f9, Option.getD, fstC, sndC, bodyC, thnC, elsC]
        have hnn : binStr .neq [] [] = some (.bool false) := by simp [binStr]
        simp [xI_seq, xI_region, xI_ret, regA, regOps, runOps, opStep, wantedA, opA, evo, evos, calleeA, lk, nif_eq, putE, paramsE, valS, val2, keepE, restrict, finA, resA, binA, binInt, ofConst, ofConst1, loadA, TK.isAgg, asVar, unA, builtinA, lenOpA, lenA, ileb_cast, ileb_eq, ieqb_dec, indexAddrA, inB_dec, evPairs, storeA, AV.cellsOf, pairsOf, xI_nil, binBool, gcE, evOpt, tagZ, xI_block, xI_loopH, xI_condM, xI_exitM, xI_skip, xI_blk, exitA, ty2, ty3, ty4, ty5, ty9, ty24, ty27, ty36, ty65, ty67, eK9_0_0, eK9_1_2, eK9_2_4, eK9_2_3, eK9_2_2, runTr, pairsOk, pairOk, lstAt, lastOf, sameVal, AV.eqv, eqvs, eqvs_ints, regOps, blt_dec, cond_true, cond_false, fieldAddrA, allOne, AV.one, buildA, sizesOf, fillA, putCells, n_push, indexA, ty2, ty27, ty9, ty5, ty3, ty36, cb, cw, hnn]
      · have hn1 : 0 < n := by omega
        have cb := more (v43 hT (L := Q.map stO) hlm.symm hq.strm hn1 σ3 [.str tb, .sl a 0 n n] (by
          have e0 : mapO (frzV σ3 frzDepth) [] = some [] := rfl
          have := mapO_cons (f := frzV σ3 frzDepth) (x := .str tb) rfl (mapO_cons (q1.frz (d := 4) hlm.symm) e0)
          rw [hlm]; exact this))
        have hTQ2 : Tbl Q.length tb := by rw [← hQ]; exact hT
        have hlaw := comb_law hTQ2 hq
        have hcw : cwV tb (Q.map (·.1)) ≤ 1000000 := by
          have h3 : ∀ j, j < (Q.map (·.1)).length → wsF (Q.map (·.1)) j ≤ 3 := fun j hj => by
            have : wsF (Q.map (·.1)) j = (Q.map (·.1))[j] := by simp only [wsF, List.getD_eq_getElem?_getD, List.getElem?_eq_getElem hj]; rfl
            rw [this]
            obtain ⟨q, hq', he⟩ := List.mem_map.1 (List.getElem_mem hj)
            rw [← he]; exact (hq q hq').2.1
          have := Xe.bsum_le (n := (Q.map (·.1)).length) (by rw [List.length_map]; omega) h3 (nf (Q.map (·.1)).length (bitf tb)) (pw (Q.map (·.1)).length)
          have hp := pw_4 hTQ.2.1
          unfold cwV; omega
        have h1 := l9_1 hT hlm.symm hq.strm a (cwV tb (Q.map (·.1))) hlaw hcw σ3 q1 32 0 rfl
        refine ⟨σ3, ?_⟩
        rw [hlm] at h1
        rw [← h1]
        have hol : (cbL tb (Q.map stO)).length = 32 := txt_length _ _
        clear h1 hlaw hcw cl c1 c2 c3 vr vt h0 q1 q2 r1 r2
        unfold Z0 E1
        rw [show ((0 : Nat) : Int) = 0 from rfl]
        generalize cwV tb (Q.map (·.1)) = bo at *
        generalize cbL tb (Q.map stO) = out at *
        have hzi : ¬ (n : Int) = 0 := by omega
        have hpi : (0 : Int) < (n : Int) := by omega
        rw [fi9]
        conv => lhs; simp only [R9_0_0, b9, Tryd.f9, Option.getD, fstC, sndC, bodyC, thnC, elsC]
        simp [xI_seq, xI_region, xI_ret, regA, regOps, runOps, opStep, wantedA, opA, evo, evos, calleeA, lk, nif_eq, putE, paramsE, valS, val2, keepE, restrict, finA, resA, binA, binInt, ofConst, ofConst1, loadA, TK.isAgg, asVar, unA, builtinA, lenOpA, lenA, ileb_cast, ileb_eq, ieqb_dec, indexAddrA, inB_dec, evPairs, storeA, AV.cellsOf, pairsOf, xI_nil, binBool, gcE, evOpt, tagZ, xI_block, xI_loopH, xI_condM, xI_exitM, xI_skip, xI_blk, exitA, ty2, ty3, ty4, ty5, ty9, ty24, ty27, ty36, ty65, ty67, eK9_0_0, eK9_1_2, eK9_2_4, eK9_2_3, eK9_2_2, runTr, pairsOk, pairOk, lstAt, lastOf, sameVal, AV.eqv, eqvs, eqvs_ints, regOps, blt_dec, cond_true, cond_false, fieldAddrA, allOne, AV.one, buildA, sizesOf, fillA, putCells, n_push, indexA, ty2, ty27, ty9, ty5, ty3, ty36, cb, cw, hol, hz, hzi, hpi, hn1]
        try rfl
    obtain ⟨σ', hf⟩ := fin
    refine ⟨σ', ?_⟩
    rw [← hf, ← h0]
    clear hf h0 vt vr cw q1 q2
    unfold E0
    rw [show ((0 : Nat) : Int) = 0 from rfl]
    rw [fi9]
    simp [xI_seq, xI_region, xI_ret, regA, regOps, runOps, opStep, wantedA, opA, evo, evos, calleeA, lk, nif_eq, putE, paramsE, valS, val2, keepE, restrict, finA, resA, binA, binInt, ofConst, ofConst1, loadA, TK.isAgg, asVar, unA, builtinA, lenOpA, lenA, ileb_cast, ileb_eq, ieqb_dec, indexAddrA, inB_dec, evPairs, storeA, AV.cellsOf, pairsOf, xI_nil, binBool, gcE, evOpt, tagZ, xI_block, xI_loopH, xI_condM, xI_exitM, xI_skip, xI_blk, exitA, ty2, ty3, ty4, ty5, ty9, ty24, ty27, ty36, ty65, ty67, eK9_0_0, eK9_1_2, eK9_2_4, eK9_2_3, eK9_2_2, runTr, pairsOk, pairOk, lstAt, lastOf, sameVal, AV.eqv, eqvs, eqvs_ints, regOps, blt_dec, cond_true, cond_false, fieldAddrA, allOne, AV.one, buildA, sizesOf, fillA, putCells, n_push, indexA, ty2, ty27, ty9, ty5, ty3, ty36, cl, c1, c2, c3, hn0, hn4, hn4b, hn4c, b0, b1]
    try rfl
end TXG

end Go.Proofs.YthkdbkjkccogfaaDoor
