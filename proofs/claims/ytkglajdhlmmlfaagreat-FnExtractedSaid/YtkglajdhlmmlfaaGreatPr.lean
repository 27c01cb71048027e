/- The law on what rows make of a source. Nothing is claimed here; no condition. -/
import Derived.Test.YtkglajdhlmmlfaaGreatPq
namespace Go.Proofs.YtkglajdhlmmlfaaGreat
open Go Go.Abs Go.Nm
set_option linter.unusedSimpArgs false
set_option linter.unusedVariables false
noncomputable def b3 : Code := Tryz.f3.body.getD .skip
noncomputable def B3_0 : Code := (bodyC (bodyC (fstC (sndC (sndC (sndC (sndC b3)))))))
noncomputable def K3_0 : List It := .lp B3_0 :: .blk 0 :: .code (sndC (sndC (sndC (sndC (sndC b3))))) :: []
theorem xl3_0 {fi : FI} {env : Env} {σ : St} : exI TT fi K3_0 env σ = exI TT fi (.code B3_0 :: K3_0) env σ := by unfold K3_0; exact xI_lp
noncomputable def R3_0_0 : List It := .code (sndC (sndC (sndC (sndC (sndC b3))))) :: []
theorem eK3_0_0 : exitA 0 K3_0 = some R3_0_0 := rfl
noncomputable def B3_1 : Code := (bodyC (bodyC (sndC (fstC (sndC (sndC (sndC (sndC (sndC (sndC (sndC (sndC (sndC (sndC (sndC (sndC (sndC (sndC (sndC b3)))))))))))))))))))
noncomputable def K3_1 : List It := .lp B3_1 :: .blk 2 :: .code (sndC (sndC (sndC (sndC (sndC (sndC (sndC (sndC (sndC (sndC (sndC (sndC (sndC (sndC (sndC (sndC b3)))))))))))))))) :: []
theorem xl3_1 {fi : FI} {env : Env} {σ : St} : exI TT fi K3_1 env σ = exI TT fi (.code B3_1 :: K3_1) env σ := by unfold K3_1; exact xI_lp
noncomputable def R3_1_2 : List It := .code (sndC (sndC (sndC (sndC (sndC (sndC (sndC (sndC (sndC (sndC (sndC (sndC (sndC (sndC (sndC (sndC b3)))))))))))))))) :: []
theorem eK3_1_2 : exitA 2 K3_1 = some R3_1_2 := rfl
noncomputable def B3_2 : Code := (bodyC (bodyC (sndC (fstC (sndC (sndC (sndC (sndC (sndC (sndC (sndC (sndC (sndC (sndC (sndC (sndC (sndC (sndC (sndC (sndC b3))))))))))))))))))))
noncomputable def K3_2 : List It := .lp B3_2 :: .blk 4 :: .code (sndC (sndC (sndC (sndC (sndC (sndC (sndC (sndC (sndC (sndC (sndC (sndC (sndC (sndC (sndC (sndC (sndC b3))))))))))))))))) :: []
theorem xl3_2 {fi : FI} {env : Env} {σ : St} : exI TT fi K3_2 env σ = exI TT fi (.code B3_2 :: K3_2) env σ := by unfold K3_2; exact xI_lp
noncomputable def R3_2_4 : List It := .code (sndC (sndC (sndC (sndC (sndC (sndC (sndC (sndC (sndC (sndC (sndC (sndC (sndC (sndC (sndC (sndC (sndC b3))))))))))))))))) :: []
theorem eK3_2_4 : exitA 4 K3_2 = some R3_2_4 := rfl
noncomputable def B3_3 : Code := (bodyC (bodyC (sndC (fstC (sndC (bodyC (fstC (sndC (bodyC (bodyC (sndC (fstC (sndC (sndC (sndC (sndC (sndC (sndC (sndC (sndC (sndC (sndC (sndC (sndC (sndC (sndC (sndC (sndC b3))))))))))))))))))))))))))))
noncomputable def K3_3 : List It := .lp B3_3 :: .blk 6 :: .code (sndC (sndC (bodyC (fstC (sndC (bodyC (bodyC (sndC (fstC (sndC (sndC (sndC (sndC (sndC (sndC (sndC (sndC (sndC (sndC (sndC (sndC (sndC (sndC (sndC (sndC b3))))))))))))))))))))))))) :: .blk 5 :: .code (sndC (sndC (bodyC (bodyC (sndC (fstC (sndC (sndC (sndC (sndC (sndC (sndC (sndC (sndC (sndC (sndC (sndC (sndC (sndC (sndC (sndC (sndC b3)))))))))))))))))))))) :: K3_2
theorem xl3_3 {fi : FI} {env : Env} {σ : St} : exI TT fi K3_3 env σ = exI TT fi (.code B3_3 :: K3_3) env σ := by unfold K3_3; exact xI_lp
noncomputable def R3_3_6 : List It := .code (sndC (sndC (bodyC (fstC (sndC (bodyC (bodyC (sndC (fstC (sndC (sndC (sndC (sndC (sndC (sndC (sndC (sndC (sndC (sndC (sndC (sndC (sndC (sndC (sndC (sndC b3))))))))))))))))))))))))) :: .blk 5 :: .code (sndC (sndC (bodyC (bodyC (sndC (fstC (sndC (sndC (sndC (sndC (sndC (sndC (sndC (sndC (sndC (sndC (sndC (sndC (sndC (sndC (sndC (sndC b3)))))))))))))))))))))) :: K3_2
theorem eK3_3_6 : exitA 6 K3_3 = some R3_3_6 := rfl
noncomputable def R3_3_5 : List It := .code (sndC (sndC (bodyC (bodyC (sndC (fstC (sndC (sndC (sndC (sndC (sndC (sndC (sndC (sndC (sndC (sndC (sndC (sndC (sndC (sndC (sndC (sndC b3)))))))))))))))))))))) :: K3_2
theorem eK3_3_5 : exitA 5 K3_3 = some R3_3_5 := rfl
theorem eK3_3_4 : exitA 4 K3_3 = some R3_2_4 := rfl
noncomputable def B3_4 : Code := (bodyC (bodyC (sndC (fstC (sndC (sndC (sndC (sndC (sndC (sndC (sndC (sndC (sndC (sndC (sndC (sndC (sndC (sndC (sndC (sndC (sndC (sndC b3))))))))))))))))))))))
noncomputable def K3_4 : List It := .lp B3_4 :: .blk 8 :: .code (sndC (sndC (sndC (sndC (sndC (sndC (sndC (sndC (sndC (sndC (sndC (sndC (sndC (sndC (sndC (sndC (sndC (sndC (sndC b3))))))))))))))))))) :: []
theorem xl3_4 {fi : FI} {env : Env} {σ : St} : exI TT fi K3_4 env σ = exI TT fi (.code B3_4 :: K3_4) env σ := by unfold K3_4; exact xI_lp
noncomputable def R3_4_8 : List It := .code (sndC (sndC (sndC (sndC (sndC (sndC (sndC (sndC (sndC (sndC (sndC (sndC (sndC (sndC (sndC (sndC (sndC (sndC (sndC b3))))))))))))))))))) :: []
theorem eK3_4_8 : exitA 8 K3_4 = some R3_4_8 := rfl
set_option maxHeartbeats 4000000 in
theorem s3a (m N i : Nat) (P : Int) (mo cells : List AV) (σ : St) (hu : wrapA .u64 (i : Int) = (i : Int)) (hP : wrapA .i64 (shlA 1 (min i IntKind.i64.bits)) = P) (hlt : P < (N : Int)) (hw : wrapA .i64 ((i : Int) + 1) = (i : Int) + 1) :
    exI TT (FI.of Tryz.f3 (TT.an 3)) K3_0 [(1, .lst m mo), (5, .lst N cells), (6, .int .i64 i)] σ = exI TT (FI.of Tryz.f3 (TT.an 3)) K3_0 [(1, .lst m mo), (5, .lst N cells), (6, .int .i64 ((i : Int) + 1))] σ := by
  rw [fi3]
  conv => lhs; rw [xl3_0]
  simp only [B3_0, b3, Tryz.f3, Option.getD, fstC, sndC, bodyC, thnC, elsC]
  simp (maxSteps := 1000000) (disch := omega) [xI_seq, xI_region, xI_ret, regA, regOps, runOps, opStep, wantedA, opA, evo, evos, calleeA, lk, nif_eq, putE, paramsE, valS, val2, keepE, restrict, finA, resA, binA, binInt, ofConst, ofConst1, loadA, TK.isAgg, asVar, unA, builtinA, lenOpA, lenA, indexAddrA, evPairs, storeA, AV.cellsOf, pairsOf, xI_nil, binBool, gcE, evOpt, runTr, pairsOk, pairOk, sameVal, AV.eqv, lastOf, lstAt, eqvs, boundA, indexA, regF, twoOf, prsOf, memI, runTrF, selF, runTr2, freshOp, scals, AV.scal, xI_block, xI_loopH, xI_condM, xI_exitM, xI_skip, xI_blk, exitA, List.getElem?_cons_zero, List.getElem?_cons_succ, List.getElem?_toArray, List.getElem?_nil, ileb_t, ileb_f, ieqb_t, ieqb_f, inB_t, wrapA_id, lp_read, ieqb_self, Nat.blt_eq, cond_true, cond_false, ty2, ty4, ty24, ty26, ty28, ty33, eK3_0_0, eK3_1_2, eK3_2_4, eK3_3_6, eK3_3_5, eK3_3_4, eK3_4_8, cellsAt, getCells, takeN, dropN, fieldAddrA, allOne, AV.one, n_push, storeCellsA, putN, overN, St.push, St.get, St.set, hget, hset, blt_dec, buildA, sizesOf, fillA, putCells, List.take_succ_cons, List.take_zero, List.drop_succ_cons, List.drop_zero, List.nil_append, List.cons_append, List.length_cons, List.length_nil, eqvs_dgs, ty3, ty51, ty55, ty57, convA, ty73, binNil, eqNil, eqStr, eqFs, Bool.and_self, Bool.and_true, hu, hP, hlt, hw]
set_option maxHeartbeats 4000000 in
theorem e3a (m N i c r M : Nat) (P d1 d2 e1 e2 a1 a2 g1 g2 : Int) (mo cells rows qs : List AV) (σ σ1 σ2 σ3 σ4 σ5 : St) (hu : wrapA .u64 (i : Int) = (i : Int)) (hP : wrapA .i64 (shlA 1 (min i IntKind.i64.bits)) = P) (hlt : ¬ P < (N : Int)) (c1 : ∀ σ, callI TT 6 [.lst m mo, .int .i64 0, .int .i64 2] σ = some (.int .i64 (r : Int), σ)) (hc : wrapA .i64 (1 + (r : Int)) = (c : Int)) (c2 : ∀ σ, callI TT 7 [.lst m mo, .int .i64 (c : Int), .int .i64 (i : Int)] σ = some (.lst c rows, σ)) (c3 : ∀ σ, callI TT 8 [.lst c rows, .lst N cells] σ = some (.tup [.lst M qs, .bool true], σ)) (c4 : ∀ σ, callI TT 9 [.lst c rows, .lst N cells] σ = some (.tup [.agg [.int .i64 d1, .int .i64 d2], .bool true], σ)) (n0 : σ.n = 0) (s1 : storeCellsA (σ.push ⟨[.int .i64 0, .int .i64 0], 2, false⟩) 0 0 [.int .i64 d1, .int .i64 d2] = some σ1) (c5 : ∀ σ, callI TT 10 [.int .i64 (c : Int), .lst N cells] σ = some (.tup [.agg [.int .i64 e1, .int .i64 e2], .bool true], σ)) (n1 : σ1.n = 1) (s2 : storeCellsA (σ1.push ⟨[.int .i64 0, .int .i64 0], 2, false⟩) 1 0 [.int .i64 e1, .int .i64 e2] = some σ2) (c6 : ∀ σ, callI TT 11 [.lst N cells] σ = some (.tup [.agg [.int .i64 a1, .int .i64 a2], .bool true], σ)) (n2 : σ2.n = 2) (s3 : storeCellsA (σ2.push ⟨[.int .i64 0, .int .i64 0], 2, false⟩) 2 0 [.int .i64 a1, .int .i64 a2] = some σ3) (c7 : ∀ σ, callI TT 12 [.lst N cells] σ = some (.tup [.agg [.int .i64 g1, .int .i64 g2], .bool true], σ)) (n3 : σ3.n = 3) (s4 : storeCellsA (σ3.push ⟨[.int .i64 0, .int .i64 0], 2, false⟩) 3 0 [.int .i64 g1, .int .i64 g2] = some σ4) (huc : wrapA .u64 (c : Int) = (c : Int)) (hM : wrapA .i64 (shlA 1 (min c IntKind.i64.bits)) = (M : Int)) (c8 : ∀ σ, callI TT 13 [.lst N cells] σ = some (.bool true, σ)) (mk : makeSliceA TT σ4 24 (.int .i64 M) (.int .i64 M) = some (.sl 4 0 M M, σ5)) :
    exI TT (FI.of Tryz.f3 (TT.an 3)) K3_0 [(1, .lst m mo), (5, .lst N cells), (6, .int .i64 i)] σ = exI TT (FI.of Tryz.f3 (TT.an 3)) K3_1 [(5, .lst N cells), (7, .int .i64 c), (8, .lst c rows), (9, .lst M qs), (11, .ptr 0 0), (13, .ptr 1 0), (15, .ptr 2 0), (17, .ptr 3 0), (19, .int .i64 M), (20, .sl 4 0 M M), (21, .int .i64 0)] σ5 := by
  rw [fi3]
  conv => lhs; rw [xl3_0]
  simp only [B3_0, b3, Tryz.f3, Option.getD, fstC, sndC, bodyC, thnC, elsC]
  simp (maxSteps := 1000000) (disch := omega) [xI_seq, xI_region, xI_ret, regA, regOps, runOps, opStep, wantedA, opA, evo, evos, calleeA, lk, nif_eq, putE, paramsE, valS, val2, keepE, restrict, finA, resA, binA, binInt, ofConst, ofConst1, loadA, TK.isAgg, asVar, unA, builtinA, lenOpA, lenA, indexAddrA, evPairs, storeA, AV.cellsOf, pairsOf, xI_nil, binBool, gcE, evOpt, runTr, pairsOk, pairOk, sameVal, AV.eqv, lastOf, lstAt, eqvs, boundA, indexA, regF, twoOf, prsOf, memI, runTrF, selF, runTr2, freshOp, scals, AV.scal, xI_block, xI_loopH, xI_condM, xI_exitM, xI_skip, xI_blk, exitA, List.getElem?_cons_zero, List.getElem?_cons_succ, List.getElem?_toArray, List.getElem?_nil, ileb_t, ileb_f, ieqb_t, ieqb_f, inB_t, wrapA_id, lp_read, ieqb_self, Nat.blt_eq, cond_true, cond_false, ty2, ty4, ty24, ty26, ty28, ty33, eK3_0_0, eK3_1_2, eK3_2_4, eK3_3_6, eK3_3_5, eK3_3_4, eK3_4_8, getCells, takeN, dropN, fieldAddrA, allOne, AV.one, n_push, putN, overN, blt_dec, buildA, sizesOf, fillA, putCells, List.take_succ_cons, List.take_zero, List.drop_succ_cons, List.drop_zero, List.nil_append, List.cons_append, List.length_cons, List.length_nil, eqvs_dgs, ty3, ty51, ty55, ty57, convA, ty73, binNil, eqNil, eqStr, eqFs, Bool.and_self, Bool.and_true, hu, hP, hlt, c1, hc, c2, c3, c4, n0, s1, c5, n1, s2, c6, n2, s3, c7, n3, s4, huc, hM, c8, mk]
  simp only [R3_0_0, b3, Tryz.f3, Option.getD, fstC, sndC, bodyC, thnC, elsC]
  simp (maxSteps := 1000000) (disch := omega) [xI_seq, xI_region, xI_ret, regA, regOps, runOps, opStep, wantedA, opA, evo, evos, calleeA, lk, nif_eq, putE, paramsE, valS, val2, keepE, restrict, finA, resA, binA, binInt, ofConst, ofConst1, loadA, TK.isAgg, asVar, unA, builtinA, lenOpA, lenA, indexAddrA, evPairs, storeA, AV.cellsOf, pairsOf, xI_nil, binBool, gcE, evOpt, runTr, pairsOk, pairOk, sameVal, AV.eqv, lastOf, lstAt, eqvs, boundA, indexA, regF, twoOf, prsOf, memI, runTrF, selF, runTr2, freshOp, scals, AV.scal, xI_block, xI_loopH, xI_condM, xI_exitM, xI_skip, xI_blk, exitA, List.getElem?_cons_zero, List.getElem?_cons_succ, List.getElem?_toArray, List.getElem?_nil, ileb_t, ileb_f, ieqb_t, ieqb_f, inB_t, wrapA_id, lp_read, ieqb_self, Nat.blt_eq, cond_true, cond_false, ty2, ty4, ty24, ty26, ty28, ty33, eK3_0_0, eK3_1_2, eK3_2_4, eK3_3_6, eK3_3_5, eK3_3_4, eK3_4_8, getCells, takeN, dropN, fieldAddrA, allOne, AV.one, n_push, putN, overN, blt_dec, buildA, sizesOf, fillA, putCells, List.take_succ_cons, List.take_zero, List.drop_succ_cons, List.drop_zero, List.nil_append, List.cons_append, List.length_cons, List.length_nil, eqvs_dgs, ty3, ty51, ty55, ty57, convA, ty73, binNil, eqNil, eqStr, eqFs, Bool.and_self, Bool.and_true, hu, hP, hlt, c1, hc, c2, c3, c4, n0, s1, c5, n1, s2, c6, n2, s3, c7, n3, s4, huc, hM, c8, mk]
  rfl
set_option maxHeartbeats 4000000 in
theorem b3e (n m N : Nat) (c mo cells : List AV) (σ : St) (c1 : ∀ σ, callI TT 4 [.lst n c, .lst m mo] σ = some (.bool false, σ)) (c2 : ∀ σ, callI TT 5 [.lst n c] σ = some (.lst N cells, σ)) :
    exI TT (FI.of Tryz.f3 (TT.an 3)) [.code b3] (paramsE 0 [.lst n c, .lst m mo]) σ = exI TT (FI.of Tryz.f3 (TT.an 3)) K3_0 [(1, .lst m mo), (5, .lst N cells), (6, .int .i64 1)] σ := by
  rw [fi3]
  simp only [b3, Tryz.f3, Option.getD, fstC, sndC, bodyC, thnC, elsC]
  simp (maxSteps := 1000000) (disch := omega) [xI_seq, xI_region, xI_ret, regA, regOps, runOps, opStep, wantedA, opA, evo, evos, calleeA, lk, nif_eq, putE, paramsE, valS, val2, keepE, restrict, finA, resA, binA, binInt, ofConst, ofConst1, loadA, TK.isAgg, asVar, unA, builtinA, lenOpA, lenA, indexAddrA, evPairs, storeA, AV.cellsOf, pairsOf, xI_nil, binBool, gcE, evOpt, runTr, pairsOk, pairOk, sameVal, AV.eqv, lastOf, lstAt, eqvs, boundA, indexA, regF, twoOf, prsOf, memI, runTrF, selF, runTr2, freshOp, scals, AV.scal, xI_block, xI_loopH, xI_condM, xI_exitM, xI_skip, xI_blk, exitA, List.getElem?_cons_zero, List.getElem?_cons_succ, List.getElem?_toArray, List.getElem?_nil, ileb_t, ileb_f, ieqb_t, ieqb_f, inB_t, wrapA_id, lp_read, ieqb_self, Nat.blt_eq, cond_true, cond_false, ty2, ty4, ty24, ty26, ty28, ty33, eK3_0_0, eK3_1_2, eK3_2_4, eK3_3_6, eK3_3_5, eK3_3_4, eK3_4_8, cellsAt, getCells, takeN, dropN, fieldAddrA, allOne, AV.one, n_push, storeCellsA, putN, overN, St.push, St.get, St.set, hget, hset, blt_dec, buildA, sizesOf, fillA, putCells, List.take_succ_cons, List.take_zero, List.drop_succ_cons, List.drop_zero, List.nil_append, List.cons_append, List.length_cons, List.length_nil, eqvs_dgs, ty3, ty51, ty55, ty57, convA, ty73, binNil, eqNil, eqStr, eqFs, Bool.and_self, Bool.and_true, c1, c2]
  rfl
set_option maxHeartbeats 4000000 in
theorem z3 (n m : Nat) (xs ys : List AV) (c1 : ∀ σ, callI TT 4 [.lst n xs, .lst m ys] σ = some (.bool true, σ)) :
    ∃ σ', exI TT (FI.of Tryz.f3 (TT.an 3)) [.code (Tryz.f3.body.getD .skip)] (paramsE 0 [.lst n xs, .lst m ys]) ⟨[], 0⟩ = some (.bool true, σ') := by
  refine ex1 ?_
  rw [fi3]
  simp only [Tryz.f3, Option.getD]
  simp (maxSteps := 1000000) (disch := omega) [xI_seq, xI_region, xI_ret, regA, regOps, runOps, opStep, wantedA, opA, evo, evos, calleeA, lk, nif_eq, putE, paramsE, valS, val2, keepE, restrict, finA, resA, binA, binInt, ofConst, ofConst1, loadA, TK.isAgg, asVar, unA, builtinA, lenOpA, lenA, indexAddrA, evPairs, storeA, AV.cellsOf, pairsOf, xI_nil, binBool, gcE, evOpt, runTr, pairsOk, pairOk, sameVal, AV.eqv, lastOf, lstAt, eqvs, boundA, indexA, regF, twoOf, prsOf, memI, runTrF, selF, runTr2, freshOp, scals, AV.scal, xI_block, xI_loopH, xI_condM, xI_exitM, xI_skip, xI_blk, exitA, List.getElem?_cons_zero, List.getElem?_cons_succ, List.getElem?_toArray, List.getElem?_nil, ileb_t, ileb_f, ieqb_t, ieqb_f, inB_t, wrapA_id, lp_read, ieqb_self, Nat.blt_eq, cond_true, cond_false, ty2, ty4, ty24, ty26, ty28, ty33, eK3_0_0, eK3_1_2, eK3_2_4, eK3_3_6, eK3_3_5, eK3_3_4, eK3_4_8, cellsAt, getCells, takeN, dropN, fieldAddrA, allOne, AV.one, n_push, storeCellsA, putN, overN, St.push, St.get, St.set, hget, hset, blt_dec, buildA, sizesOf, fillA, putCells, List.take_succ_cons, List.take_zero, List.drop_succ_cons, List.drop_zero, List.nil_append, List.cons_append, List.length_cons, List.length_nil, eqvs_dgs, ty3, ty51, ty55, ty57, convA, ty73, binNil, eqNil, eqStr, eqFs, Bool.and_self, Bool.and_true, c1]
set_option maxHeartbeats 4000000 in
theorem s3b (N c M : Nat) (cells rows qs : List AV) (i : Nat) (σ σ1 : St) (hi : i < M) (s1 : storeCellsA σ 4 (i * 2) [.int .i64 0, .int .i64 1] = some σ1) (hw : wrapA .i64 ((i : Int) + 1) = (i : Int) + 1) :
    exI TT (FI.of Tryz.f3 (TT.an 3)) K3_1 [(5, .lst N cells), (7, .int .i64 c), (8, .lst c rows), (9, .lst M qs), (11, .ptr 0 0), (13, .ptr 1 0), (15, .ptr 2 0), (17, .ptr 3 0), (19, .int .i64 M), (20, .sl 4 0 M M), (21, .int .i64 i)] σ = exI TT (FI.of Tryz.f3 (TT.an 3)) K3_1 [(5, .lst N cells), (7, .int .i64 c), (8, .lst c rows), (9, .lst M qs), (11, .ptr 0 0), (13, .ptr 1 0), (15, .ptr 2 0), (17, .ptr 3 0), (19, .int .i64 M), (20, .sl 4 0 M M), (21, .int .i64 ((i : Int) + 1))] σ1 := by
  rw [fi3]
  conv => lhs; rw [xl3_1]
  simp only [B3_1, b3, Tryz.f3, Option.getD, fstC, sndC, bodyC, thnC, elsC]
  simp (maxSteps := 1000000) (disch := omega) [xI_seq, xI_region, xI_ret, regA, regOps, runOps, opStep, wantedA, opA, evo, evos, calleeA, lk, nif_eq, putE, paramsE, valS, val2, keepE, restrict, finA, resA, binA, binInt, ofConst, ofConst1, loadA, TK.isAgg, asVar, unA, builtinA, lenOpA, lenA, indexAddrA, evPairs, storeA, AV.cellsOf, pairsOf, xI_nil, binBool, gcE, evOpt, runTr, pairsOk, pairOk, sameVal, AV.eqv, lastOf, lstAt, eqvs, boundA, indexA, regF, twoOf, prsOf, memI, runTrF, selF, runTr2, freshOp, scals, AV.scal, xI_block, xI_loopH, xI_condM, xI_exitM, xI_skip, xI_blk, exitA, List.getElem?_cons_zero, List.getElem?_cons_succ, List.getElem?_toArray, List.getElem?_nil, ileb_t, ileb_f, ieqb_t, ieqb_f, inB_t, wrapA_id, lp_read, ieqb_self, Nat.blt_eq, cond_true, cond_false, ty2, ty4, ty24, ty26, ty28, ty33, eK3_0_0, eK3_1_2, eK3_2_4, eK3_3_6, eK3_3_5, eK3_3_4, eK3_4_8, getCells, takeN, dropN, fieldAddrA, allOne, AV.one, n_push, putN, overN, blt_dec, buildA, sizesOf, fillA, putCells, List.take_succ_cons, List.take_zero, List.drop_succ_cons, List.drop_zero, List.nil_append, List.cons_append, List.length_cons, List.length_nil, eqvs_dgs, ty3, ty51, ty55, ty57, convA, ty73, binNil, eqNil, eqStr, eqFs, Bool.and_self, Bool.and_true, hi, s1, hw]
set_option maxHeartbeats 4000000 in
theorem e3b (N c M : Nat) (cells rows qs : List AV) (σ : St)  :
    exI TT (FI.of Tryz.f3 (TT.an 3)) K3_1 [(5, .lst N cells), (7, .int .i64 c), (8, .lst c rows), (9, .lst M qs), (11, .ptr 0 0), (13, .ptr 1 0), (15, .ptr 2 0), (17, .ptr 3 0), (19, .int .i64 M), (20, .sl 4 0 M M), (21, .int .i64 M)] σ = exI TT (FI.of Tryz.f3 (TT.an 3)) K3_2 [(5, .lst N cells), (7, .int .i64 c), (8, .lst c rows), (9, .lst M qs), (11, .ptr 0 0), (13, .ptr 1 0), (15, .ptr 2 0), (17, .ptr 3 0), (19, .int .i64 M), (20, .sl 4 0 M M), (22, .int .i64 0)] σ := by
  rw [fi3]
  conv => lhs; rw [xl3_1]
  simp only [B3_1, b3, Tryz.f3, Option.getD, fstC, sndC, bodyC, thnC, elsC]
  simp (maxSteps := 1000000) (disch := omega) [xI_seq, xI_region, xI_ret, regA, regOps, runOps, opStep, wantedA, opA, evo, evos, calleeA, lk, nif_eq, putE, paramsE, valS, val2, keepE, restrict, finA, resA, binA, binInt, ofConst, ofConst1, loadA, TK.isAgg, asVar, unA, builtinA, lenOpA, lenA, indexAddrA, evPairs, storeA, AV.cellsOf, pairsOf, xI_nil, binBool, gcE, evOpt, runTr, pairsOk, pairOk, sameVal, AV.eqv, lastOf, lstAt, eqvs, boundA, indexA, regF, twoOf, prsOf, memI, runTrF, selF, runTr2, freshOp, scals, AV.scal, xI_block, xI_loopH, xI_condM, xI_exitM, xI_skip, xI_blk, exitA, List.getElem?_cons_zero, List.getElem?_cons_succ, List.getElem?_toArray, List.getElem?_nil, ileb_t, ileb_f, ieqb_t, ieqb_f, inB_t, wrapA_id, lp_read, ieqb_self, Nat.blt_eq, cond_true, cond_false, ty2, ty4, ty24, ty26, ty28, ty33, eK3_0_0, eK3_1_2, eK3_2_4, eK3_3_6, eK3_3_5, eK3_3_4, eK3_4_8, getCells, takeN, dropN, fieldAddrA, allOne, AV.one, n_push, putN, overN, blt_dec, buildA, sizesOf, fillA, putCells, List.take_succ_cons, List.take_zero, List.drop_succ_cons, List.drop_zero, List.nil_append, List.cons_append, List.length_cons, List.length_nil, eqvs_dgs, ty3, ty51, ty55, ty57, convA, ty73, binNil, eqNil, eqStr, eqFs, Bool.and_self, Bool.and_true]
  simp only [R3_1_2, b3, Tryz.f3, Option.getD, fstC, sndC, bodyC, thnC, elsC]
  simp (maxSteps := 1000000) (disch := omega) [xI_seq, xI_region, xI_ret, regA, regOps, runOps, opStep, wantedA, opA, evo, evos, calleeA, lk, nif_eq, putE, paramsE, valS, val2, keepE, restrict, finA, resA, binA, binInt, ofConst, ofConst1, loadA, TK.isAgg, asVar, unA, builtinA, lenOpA, lenA, indexAddrA, evPairs, storeA, AV.cellsOf, pairsOf, xI_nil, binBool, gcE, evOpt, runTr, pairsOk, pairOk, sameVal, AV.eqv, lastOf, lstAt, eqvs, boundA, indexA, regF, twoOf, prsOf, memI, runTrF, selF, runTr2, freshOp, scals, AV.scal, xI_block, xI_loopH, xI_condM, xI_exitM, xI_skip, xI_blk, exitA, List.getElem?_cons_zero, List.getElem?_cons_succ, List.getElem?_toArray, List.getElem?_nil, ileb_t, ileb_f, ieqb_t, ieqb_f, inB_t, wrapA_id, lp_read, ieqb_self, Nat.blt_eq, cond_true, cond_false, ty2, ty4, ty24, ty26, ty28, ty33, eK3_0_0, eK3_1_2, eK3_2_4, eK3_3_6, eK3_3_5, eK3_3_4, eK3_4_8, getCells, takeN, dropN, fieldAddrA, allOne, AV.one, n_push, putN, overN, blt_dec, buildA, sizesOf, fillA, putCells, List.take_succ_cons, List.take_zero, List.drop_succ_cons, List.drop_zero, List.nil_append, List.cons_append, List.length_cons, List.length_nil, eqvs_dgs, ty3, ty51, ty55, ty57, convA, ty73, binNil, eqNil, eqStr, eqFs, Bool.and_self, Bool.and_true]
  rfl
set_option maxHeartbeats 4000000 in
theorem s3c (N c M : Nat) (cells rows qs : List AV) (x : Nat) (σ : St) (hx : x < N) :
    exI TT (FI.of Tryz.f3 (TT.an 3)) K3_2 [(5, .lst N cells), (7, .int .i64 c), (8, .lst c rows), (9, .lst M qs), (11, .ptr 0 0), (13, .ptr 1 0), (15, .ptr 2 0), (17, .ptr 3 0), (19, .int .i64 M), (20, .sl 4 0 M M), (22, .int .i64 x)] σ = exI TT (FI.of Tryz.f3 (TT.an 3)) K3_3 [(5, .lst N cells), (7, .int .i64 c), (8, .lst c rows), (9, .lst M qs), (11, .ptr 0 0), (13, .ptr 1 0), (15, .ptr 2 0), (17, .ptr 3 0), (19, .int .i64 M), (20, .sl 4 0 M M), (22, .int .i64 x), (23, .int .i64 0), (24, .int .i64 0)] σ := by
  rw [fi3]
  conv => lhs; rw [xl3_2]
  simp only [B3_2, b3, Tryz.f3, Option.getD, fstC, sndC, bodyC, thnC, elsC]
  simp (maxSteps := 1000000) (disch := omega) [xI_seq, xI_region, xI_ret, regA, regOps, runOps, opStep, wantedA, opA, evo, evos, calleeA, lk, nif_eq, putE, paramsE, valS, val2, keepE, restrict, finA, resA, binA, binInt, ofConst, ofConst1, loadA, TK.isAgg, asVar, unA, builtinA, lenOpA, lenA, indexAddrA, evPairs, storeA, AV.cellsOf, pairsOf, xI_nil, binBool, gcE, evOpt, runTr, pairsOk, pairOk, sameVal, AV.eqv, lastOf, lstAt, eqvs, boundA, indexA, regF, twoOf, prsOf, memI, runTrF, selF, runTr2, freshOp, scals, AV.scal, xI_block, xI_loopH, xI_condM, xI_exitM, xI_skip, xI_blk, exitA, List.getElem?_cons_zero, List.getElem?_cons_succ, List.getElem?_toArray, List.getElem?_nil, ileb_t, ileb_f, ieqb_t, ieqb_f, inB_t, wrapA_id, lp_read, ieqb_self, Nat.blt_eq, cond_true, cond_false, ty2, ty4, ty24, ty26, ty28, ty33, eK3_0_0, eK3_1_2, eK3_2_4, eK3_3_6, eK3_3_5, eK3_3_4, eK3_4_8, getCells, takeN, dropN, fieldAddrA, allOne, AV.one, n_push, putN, overN, blt_dec, buildA, sizesOf, fillA, putCells, List.take_succ_cons, List.take_zero, List.drop_succ_cons, List.drop_zero, List.nil_append, List.cons_append, List.length_cons, List.length_nil, eqvs_dgs, ty3, ty51, ty55, ty57, convA, ty73, binNil, eqNil, eqStr, eqFs, Bool.and_self, Bool.and_true, hx]
  rfl
set_option maxHeartbeats 4000000 in
theorem s3d (N c M : Nat) (cells rows qs : List AV) (x i : Nat) (r b y y1 y2 : Int) (σ : St) (hi : i < c) (l1 : cellsAt σ (.lp rows i) 1 = some [.int .i64 r]) (c1 : ∀ σ, callI TT 14 [.int .i64 (x : Int), .int .i64 r] σ = some (.tup [.int .i64 b, .bool true], σ)) (hu : wrapA .u64 (i : Int) = (i : Int)) (h1 : wrapA .i64 (shlA b (min i IntKind.i64.bits)) = y1) (h2 : wrapA .i64 (y + y1) = y2) (hw : wrapA .i64 ((i : Int) + 1) = (i : Int) + 1) :
    exI TT (FI.of Tryz.f3 (TT.an 3)) K3_3 [(5, .lst N cells), (7, .int .i64 c), (8, .lst c rows), (9, .lst M qs), (11, .ptr 0 0), (13, .ptr 1 0), (15, .ptr 2 0), (17, .ptr 3 0), (19, .int .i64 M), (20, .sl 4 0 M M), (22, .int .i64 x), (23, .int .i64 y), (24, .int .i64 i)] σ = exI TT (FI.of Tryz.f3 (TT.an 3)) K3_3 [(5, .lst N cells), (7, .int .i64 c), (8, .lst c rows), (9, .lst M qs), (11, .ptr 0 0), (13, .ptr 1 0), (15, .ptr 2 0), (17, .ptr 3 0), (19, .int .i64 M), (20, .sl 4 0 M M), (22, .int .i64 x), (23, .int .i64 y2), (24, .int .i64 ((i : Int) + 1))] σ := by
  rw [fi3]
  conv => lhs; rw [xl3_3]
  simp only [B3_3, b3, Tryz.f3, Option.getD, fstC, sndC, bodyC, thnC, elsC]
  simp (maxSteps := 1000000) (disch := omega) [xI_seq, xI_region, xI_ret, regA, regOps, runOps, opStep, wantedA, opA, evo, evos, calleeA, lk, nif_eq, putE, paramsE, valS, val2, keepE, restrict, finA, resA, binA, binInt, ofConst, ofConst1, loadA, TK.isAgg, asVar, unA, builtinA, lenOpA, lenA, indexAddrA, evPairs, storeA, AV.cellsOf, pairsOf, xI_nil, binBool, gcE, evOpt, runTr, pairsOk, pairOk, sameVal, AV.eqv, lastOf, lstAt, eqvs, boundA, indexA, regF, twoOf, prsOf, memI, runTrF, selF, runTr2, freshOp, scals, AV.scal, xI_block, xI_loopH, xI_condM, xI_exitM, xI_skip, xI_blk, exitA, List.getElem?_cons_zero, List.getElem?_cons_succ, List.getElem?_toArray, List.getElem?_nil, ileb_t, ileb_f, ieqb_t, ieqb_f, inB_t, wrapA_id, lp_read, ieqb_self, Nat.blt_eq, cond_true, cond_false, ty2, ty4, ty24, ty26, ty28, ty33, eK3_0_0, eK3_1_2, eK3_2_4, eK3_3_6, eK3_3_5, eK3_3_4, eK3_4_8, getCells, takeN, dropN, fieldAddrA, allOne, AV.one, n_push, putN, overN, blt_dec, buildA, sizesOf, fillA, putCells, List.take_succ_cons, List.take_zero, List.drop_succ_cons, List.drop_zero, List.nil_append, List.cons_append, List.length_cons, List.length_nil, eqvs_dgs, ty3, ty51, ty55, ty57, convA, ty73, binNil, eqNil, eqStr, eqFs, Bool.and_self, Bool.and_true, hi, l1, c1, hu, h1, h2, hw]
set_option maxHeartbeats 4000000 in
theorem e3d (N c M : Nat) (cells rows qs : List AV) (x y : Nat) (u1 u2 v1 v2 w1 w2 g1 g2 : Int) (σ σ1 : St) (hx : x < N) (hy : y < M) (l1 : cellsAt σ (.ptr 4 (y * 2)) 2 = some [.int .i64 u1, .int .i64 u2]) (l2 : ∀ σ, cellsAt σ (.lp cells (x * 2)) 2 = some [.int .i64 v1, .int .i64 v2]) (c1 : ∀ σ, callI TT 15 [.agg [.int .i64 u1, .int .i64 u2], .agg [.int .i64 v1, .int .i64 v2]] σ = some (.agg [.int .i64 w1, .int .i64 w2], σ)) (s1 : storeCellsA σ 4 (y * 2) [.int .i64 w1, .int .i64 w2] = some σ1) (l3 : cellsAt σ1 (.ptr 3 0) 2 = some [.int .i64 g1, .int .i64 g2]) (c2 : ∀ σ, callI TT 16 [.agg [.int .i64 g1, .int .i64 g2], .agg [.int .i64 v1, .int .i64 v2]] σ = some (.bool false, σ)) (hw : wrapA .i64 ((x : Int) + 1) = (x : Int) + 1) :
    exI TT (FI.of Tryz.f3 (TT.an 3)) K3_3 [(5, .lst N cells), (7, .int .i64 c), (8, .lst c rows), (9, .lst M qs), (11, .ptr 0 0), (13, .ptr 1 0), (15, .ptr 2 0), (17, .ptr 3 0), (19, .int .i64 M), (20, .sl 4 0 M M), (22, .int .i64 x), (23, .int .i64 y), (24, .int .i64 c)] σ = exI TT (FI.of Tryz.f3 (TT.an 3)) K3_2 [(5, .lst N cells), (7, .int .i64 c), (8, .lst c rows), (9, .lst M qs), (11, .ptr 0 0), (13, .ptr 1 0), (15, .ptr 2 0), (17, .ptr 3 0), (19, .int .i64 M), (20, .sl 4 0 M M), (22, .int .i64 ((x : Int) + 1))] σ1 := by
  rw [fi3]
  conv => lhs; rw [xl3_3]
  simp only [B3_3, b3, Tryz.f3, Option.getD, fstC, sndC, bodyC, thnC, elsC]
  simp (maxSteps := 1000000) (disch := omega) [xI_seq, xI_region, xI_ret, regA, regOps, runOps, opStep, wantedA, opA, evo, evos, calleeA, lk, nif_eq, putE, paramsE, valS, val2, keepE, restrict, finA, resA, binA, binInt, ofConst, ofConst1, loadA, TK.isAgg, asVar, unA, builtinA, lenOpA, lenA, indexAddrA, evPairs, storeA, AV.cellsOf, pairsOf, xI_nil, binBool, gcE, evOpt, runTr, pairsOk, pairOk, sameVal, AV.eqv, lastOf, lstAt, eqvs, boundA, indexA, regF, twoOf, prsOf, memI, runTrF, selF, runTr2, freshOp, scals, AV.scal, xI_block, xI_loopH, xI_condM, xI_exitM, xI_skip, xI_blk, exitA, List.getElem?_cons_zero, List.getElem?_cons_succ, List.getElem?_toArray, List.getElem?_nil, ileb_t, ileb_f, ieqb_t, ieqb_f, inB_t, wrapA_id, lp_read, ieqb_self, Nat.blt_eq, cond_true, cond_false, ty2, ty4, ty24, ty26, ty28, ty33, eK3_0_0, eK3_1_2, eK3_2_4, eK3_3_6, eK3_3_5, eK3_3_4, eK3_4_8, getCells, takeN, dropN, fieldAddrA, allOne, AV.one, n_push, putN, overN, blt_dec, buildA, sizesOf, fillA, putCells, List.take_succ_cons, List.take_zero, List.drop_succ_cons, List.drop_zero, List.nil_append, List.cons_append, List.length_cons, List.length_nil, eqvs_dgs, ty3, ty51, ty55, ty57, convA, ty73, binNil, eqNil, eqStr, eqFs, Bool.and_self, Bool.and_true, hx, hy, l1, l2, c1, s1, l3, c2, hw]
  simp only [R3_3_6, b3, Tryz.f3, Option.getD, fstC, sndC, bodyC, thnC, elsC]
  simp (maxSteps := 1000000) (disch := omega) [xI_seq, xI_region, xI_ret, regA, regOps, runOps, opStep, wantedA, opA, evo, evos, calleeA, lk, nif_eq, putE, paramsE, valS, val2, keepE, restrict, finA, resA, binA, binInt, ofConst, ofConst1, loadA, TK.isAgg, asVar, unA, builtinA, lenOpA, lenA, indexAddrA, evPairs, storeA, AV.cellsOf, pairsOf, xI_nil, binBool, gcE, evOpt, runTr, pairsOk, pairOk, sameVal, AV.eqv, lastOf, lstAt, eqvs, boundA, indexA, regF, twoOf, prsOf, memI, runTrF, selF, runTr2, freshOp, scals, AV.scal, xI_block, xI_loopH, xI_condM, xI_exitM, xI_skip, xI_blk, exitA, List.getElem?_cons_zero, List.getElem?_cons_succ, List.getElem?_toArray, List.getElem?_nil, ileb_t, ileb_f, ieqb_t, ieqb_f, inB_t, wrapA_id, lp_read, ieqb_self, Nat.blt_eq, cond_true, cond_false, ty2, ty4, ty24, ty26, ty28, ty33, eK3_0_0, eK3_1_2, eK3_2_4, eK3_3_6, eK3_3_5, eK3_3_4, eK3_4_8, getCells, takeN, dropN, fieldAddrA, allOne, AV.one, n_push, putN, overN, blt_dec, buildA, sizesOf, fillA, putCells, List.take_succ_cons, List.take_zero, List.drop_succ_cons, List.drop_zero, List.nil_append, List.cons_append, List.length_cons, List.length_nil, eqvs_dgs, ty3, ty51, ty55, ty57, convA, ty73, binNil, eqNil, eqStr, eqFs, Bool.and_self, Bool.and_true, hx, hy, l1, l2, c1, s1, l3, c2, hw]
set_option maxHeartbeats 4000000 in
theorem e3c (N c M : Nat) (cells rows qs : List AV) (σ σ1 : St) (mk : makeSliceA TT σ 24 (.int .i64 M) (.int .i64 M) = some (.sl 5 0 M M, σ1)) :
    exI TT (FI.of Tryz.f3 (TT.an 3)) K3_2 [(5, .lst N cells), (7, .int .i64 c), (8, .lst c rows), (9, .lst M qs), (11, .ptr 0 0), (13, .ptr 1 0), (15, .ptr 2 0), (17, .ptr 3 0), (19, .int .i64 M), (20, .sl 4 0 M M), (22, .int .i64 N)] σ = exI TT (FI.of Tryz.f3 (TT.an 3)) K3_4 [(9, .lst M qs), (11, .ptr 0 0), (13, .ptr 1 0), (15, .ptr 2 0), (17, .ptr 3 0), (19, .int .i64 M), (20, .sl 4 0 M M), (27, .sl 5 0 M M), (28, .int .i64 0)] σ1 := by
  rw [fi3]
  conv => lhs; rw [xl3_2]
  simp only [B3_2, b3, Tryz.f3, Option.getD, fstC, sndC, bodyC, thnC, elsC]
  simp (maxSteps := 1000000) (disch := omega) [xI_seq, xI_region, xI_ret, regA, regOps, runOps, opStep, wantedA, opA, evo, evos, calleeA, lk, nif_eq, putE, paramsE, valS, val2, keepE, restrict, finA, resA, binA, binInt, ofConst, ofConst1, loadA, TK.isAgg, asVar, unA, builtinA, lenOpA, lenA, indexAddrA, evPairs, storeA, AV.cellsOf, pairsOf, xI_nil, binBool, gcE, evOpt, runTr, pairsOk, pairOk, sameVal, AV.eqv, lastOf, lstAt, eqvs, boundA, indexA, regF, twoOf, prsOf, memI, runTrF, selF, runTr2, freshOp, scals, AV.scal, xI_block, xI_loopH, xI_condM, xI_exitM, xI_skip, xI_blk, exitA, List.getElem?_cons_zero, List.getElem?_cons_succ, List.getElem?_toArray, List.getElem?_nil, ileb_t, ileb_f, ieqb_t, ieqb_f, inB_t, wrapA_id, lp_read, ieqb_self, Nat.blt_eq, cond_true, cond_false, ty2, ty4, ty24, ty26, ty28, ty33, eK3_0_0, eK3_1_2, eK3_2_4, eK3_3_6, eK3_3_5, eK3_3_4, eK3_4_8, getCells, takeN, dropN, fieldAddrA, allOne, AV.one, n_push, putN, overN, blt_dec, buildA, sizesOf, fillA, putCells, List.take_succ_cons, List.take_zero, List.drop_succ_cons, List.drop_zero, List.nil_append, List.cons_append, List.length_cons, List.length_nil, eqvs_dgs, ty3, ty51, ty55, ty57, convA, ty73, binNil, eqNil, eqStr, eqFs, Bool.and_self, Bool.and_true, mk]
  simp only [R3_2_4, b3, Tryz.f3, Option.getD, fstC, sndC, bodyC, thnC, elsC]
  simp (maxSteps := 1000000) (disch := omega) [xI_seq, xI_region, xI_ret, regA, regOps, runOps, opStep, wantedA, opA, evo, evos, calleeA, lk, nif_eq, putE, paramsE, valS, val2, keepE, restrict, finA, resA, binA, binInt, ofConst, ofConst1, loadA, TK.isAgg, asVar, unA, builtinA, lenOpA, lenA, indexAddrA, evPairs, storeA, AV.cellsOf, pairsOf, xI_nil, binBool, gcE, evOpt, runTr, pairsOk, pairOk, sameVal, AV.eqv, lastOf, lstAt, eqvs, boundA, indexA, regF, twoOf, prsOf, memI, runTrF, selF, runTr2, freshOp, scals, AV.scal, xI_block, xI_loopH, xI_condM, xI_exitM, xI_skip, xI_blk, exitA, List.getElem?_cons_zero, List.getElem?_cons_succ, List.getElem?_toArray, List.getElem?_nil, ileb_t, ileb_f, ieqb_t, ieqb_f, inB_t, wrapA_id, lp_read, ieqb_self, Nat.blt_eq, cond_true, cond_false, ty2, ty4, ty24, ty26, ty28, ty33, eK3_0_0, eK3_1_2, eK3_2_4, eK3_3_6, eK3_3_5, eK3_3_4, eK3_4_8, getCells, takeN, dropN, fieldAddrA, allOne, AV.one, n_push, putN, overN, blt_dec, buildA, sizesOf, fillA, putCells, List.take_succ_cons, List.take_zero, List.drop_succ_cons, List.drop_zero, List.nil_append, List.cons_append, List.length_cons, List.length_nil, eqvs_dgs, ty3, ty51, ty55, ty57, convA, ty73, binNil, eqNil, eqStr, eqFs, Bool.and_self, Bool.and_true, mk]
  rfl
set_option maxHeartbeats 4000000 in
theorem s3f (M : Nat) (qs : List AV) (i : Nat) (σ σ1 : St) (hi : i < M) (s1 : storeCellsA σ 5 (i * 2) [.int .i64 1, .int .i64 M] = some σ1) (hw : wrapA .i64 ((i : Int) + 1) = (i : Int) + 1) :
    exI TT (FI.of Tryz.f3 (TT.an 3)) K3_4 [(9, .lst M qs), (11, .ptr 0 0), (13, .ptr 1 0), (15, .ptr 2 0), (17, .ptr 3 0), (19, .int .i64 M), (20, .sl 4 0 M M), (27, .sl 5 0 M M), (28, .int .i64 i)] σ = exI TT (FI.of Tryz.f3 (TT.an 3)) K3_4 [(9, .lst M qs), (11, .ptr 0 0), (13, .ptr 1 0), (15, .ptr 2 0), (17, .ptr 3 0), (19, .int .i64 M), (20, .sl 4 0 M M), (27, .sl 5 0 M M), (28, .int .i64 ((i : Int) + 1))] σ1 := by
  rw [fi3]
  conv => lhs; rw [xl3_4]
  simp only [B3_4, b3, Tryz.f3, Option.getD, fstC, sndC, bodyC, thnC, elsC]
  simp (maxSteps := 1000000) (disch := omega) [xI_seq, xI_region, xI_ret, regA, regOps, runOps, opStep, wantedA, opA, evo, evos, calleeA, lk, nif_eq, putE, paramsE, valS, val2, keepE, restrict, finA, resA, binA, binInt, ofConst, ofConst1, loadA, TK.isAgg, asVar, unA, builtinA, lenOpA, lenA, indexAddrA, evPairs, storeA, AV.cellsOf, pairsOf, xI_nil, binBool, gcE, evOpt, runTr, pairsOk, pairOk, sameVal, AV.eqv, lastOf, lstAt, eqvs, boundA, indexA, regF, twoOf, prsOf, memI, runTrF, selF, runTr2, freshOp, scals, AV.scal, xI_block, xI_loopH, xI_condM, xI_exitM, xI_skip, xI_blk, exitA, List.getElem?_cons_zero, List.getElem?_cons_succ, List.getElem?_toArray, List.getElem?_nil, ileb_t, ileb_f, ieqb_t, ieqb_f, inB_t, wrapA_id, lp_read, ieqb_self, Nat.blt_eq, cond_true, cond_false, ty2, ty4, ty24, ty26, ty28, ty33, eK3_0_0, eK3_1_2, eK3_2_4, eK3_3_6, eK3_3_5, eK3_3_4, eK3_4_8, getCells, takeN, dropN, fieldAddrA, allOne, AV.one, n_push, putN, overN, blt_dec, buildA, sizesOf, fillA, putCells, List.take_succ_cons, List.take_zero, List.drop_succ_cons, List.drop_zero, List.nil_append, List.cons_append, List.length_cons, List.length_nil, eqvs_dgs, ty3, ty51, ty55, ty57, convA, ty73, binNil, eqNil, eqStr, eqFs, Bool.and_self, Bool.and_true, hi, s1, hw]
set_option maxHeartbeats 4000000 in
theorem e3f (M : Nat) (qs : List AV) (d1 d2 e1 e2 a1 a2 g1 g2 h1 h2 k1 k2 w1 w2 r1 r2 M1 : Int) (σ σ1 σ2 σ3 : St) (c1 : callI TT 17 [.lst M qs, .sl 5 0 M M] σ = some (.tup [.agg [.int .i64 d1, .int .i64 d2], .bool true], σ)) (n1 : σ.n = 6) (s1 : storeCellsA (σ.push ⟨[.int .i64 0, .int .i64 0], 2, false⟩) 6 0 [.int .i64 d1, .int .i64 d2] = some σ1) (c2 : callI TT 18 [.lst M qs, .sl 4 0 M M] σ1 = some (.bool true, σ1)) (l1 : cellsAt σ1 (.ptr 6 0) 2 = some [.int .i64 d1, .int .i64 d2]) (l2 : cellsAt σ1 (.ptr 0 0) 2 = some [.int .i64 d1, .int .i64 d2]) (l3 : cellsAt σ1 (.ptr 2 0) 2 = some [.int .i64 a1, .int .i64 a2]) (l4 : cellsAt σ1 (.ptr 3 0) 2 = some [.int .i64 g1, .int .i64 g2]) (c3 : ∀ σ, callI TT 19 [.agg [.int .i64 g1, .int .i64 g2], .agg [.int .i64 g1, .int .i64 g2]] σ = some (.agg [.int .i64 h1, .int .i64 h2], σ)) (c4 : ∀ σ, callI TT 16 [.agg [.int .i64 a1, .int .i64 a2], .agg [.int .i64 h1, .int .i64 h2]] σ = some (.bool false, σ)) (l5 : cellsAt σ1 (.ptr 1 0) 2 = some [.int .i64 e1, .int .i64 e2]) (c5 : ∀ σ, callI TT 19 [.agg [.int .i64 e1, .int .i64 e2], .agg [.int .i64 e1, .int .i64 e2]] σ = some (.agg [.int .i64 k1, .int .i64 k2], σ)) (c6 : ∀ σ, callI TT 19 [.agg [.int .i64 k1, .int .i64 k2], .agg [.int .i64 4, .int .i64 1]] σ = some (.agg [.int .i64 w1, .int .i64 w2], σ)) (n2 : σ1.n = 7) (s2 : storeCellsA (σ1.push ⟨[.int .i64 0, .int .i64 0], 2, false⟩) 7 0 [.int .i64 w1, .int .i64 w2] = some σ2) (l6 : cellsAt σ2 (.ptr 2 0) 2 = some [.int .i64 a1, .int .i64 a2]) (hM1 : wrapA .i64 ((M : Int) - 1) = M1) (c7 : ∀ σ, callI TT 19 [.agg [.int .i64 a1, .int .i64 a2], .agg [.int .i64 M1, .int .i64 1]] σ = some (.agg [.int .i64 r1, .int .i64 r2], σ)) (n3 : σ2.n = 8) (s3 : storeCellsA (σ2.push ⟨[.int .i64 0, .int .i64 0], 2, false⟩) 8 0 [.int .i64 r1, .int .i64 r2] = some σ3) (l7 : cellsAt σ3 (.ptr 8 0) 2 = some [.int .i64 r1, .int .i64 r2]) (l8 : cellsAt σ3 (.ptr 7 0) 2 = some [.int .i64 w1, .int .i64 w2]) (c8 : ∀ σ, callI TT 16 [.agg [.int .i64 r1, .int .i64 r2], .agg [.int .i64 w1, .int .i64 w2]] σ = some (.bool false, σ)) :
    exI TT (FI.of Tryz.f3 (TT.an 3)) K3_4 [(9, .lst M qs), (11, .ptr 0 0), (13, .ptr 1 0), (15, .ptr 2 0), (17, .ptr 3 0), (19, .int .i64 M), (20, .sl 4 0 M M), (27, .sl 5 0 M M), (28, .int .i64 M)] σ = some (.bool true, σ3) := by
  rw [fi3]
  conv => lhs; rw [xl3_4]
  simp only [B3_4, b3, Tryz.f3, Option.getD, fstC, sndC, bodyC, thnC, elsC]
  simp (maxSteps := 1000000) (disch := omega) [xI_seq, xI_region, xI_ret, regA, regOps, runOps, opStep, wantedA, opA, evo, evos, calleeA, lk, nif_eq, putE, paramsE, valS, val2, keepE, restrict, finA, resA, binA, binInt, ofConst, ofConst1, loadA, TK.isAgg, asVar, unA, builtinA, lenOpA, lenA, indexAddrA, evPairs, storeA, AV.cellsOf, pairsOf, xI_nil, binBool, gcE, evOpt, runTr, pairsOk, pairOk, sameVal, AV.eqv, lastOf, lstAt, eqvs, boundA, indexA, regF, twoOf, prsOf, memI, runTrF, selF, runTr2, freshOp, scals, AV.scal, xI_block, xI_loopH, xI_condM, xI_exitM, xI_skip, xI_blk, exitA, List.getElem?_cons_zero, List.getElem?_cons_succ, List.getElem?_toArray, List.getElem?_nil, ileb_t, ileb_f, ieqb_t, ieqb_f, inB_t, wrapA_id, lp_read, ieqb_self, Nat.blt_eq, cond_true, cond_false, ty2, ty4, ty24, ty26, ty28, ty33, eK3_0_0, eK3_1_2, eK3_2_4, eK3_3_6, eK3_3_5, eK3_3_4, eK3_4_8, getCells, takeN, dropN, fieldAddrA, allOne, AV.one, n_push, putN, overN, blt_dec, buildA, sizesOf, fillA, putCells, List.take_succ_cons, List.take_zero, List.drop_succ_cons, List.drop_zero, List.nil_append, List.cons_append, List.length_cons, List.length_nil, eqvs_dgs, ty3, ty51, ty55, ty57, convA, ty73, binNil, eqNil, eqStr, eqFs, Bool.and_self, Bool.and_true, c1, n1, s1, c2, l1, l2, l3, l4, c3, c4, l5, c5, c6, n2, s2, l6, hM1, c7, n3, s3, l7, l8, c8]
  simp only [R3_4_8, b3, Tryz.f3, Option.getD, fstC, sndC, bodyC, thnC, elsC]
  simp (maxSteps := 1000000) (disch := omega) [xI_seq, xI_region, xI_ret, regA, regOps, runOps, opStep, wantedA, opA, evo, evos, calleeA, lk, nif_eq, putE, paramsE, valS, val2, keepE, restrict, finA, resA, binA, binInt, ofConst, ofConst1, loadA, TK.isAgg, asVar, unA, builtinA, lenOpA, lenA, indexAddrA, evPairs, storeA, AV.cellsOf, pairsOf, xI_nil, binBool, gcE, evOpt, runTr, pairsOk, pairOk, sameVal, AV.eqv, lastOf, lstAt, eqvs, boundA, indexA, regF, twoOf, prsOf, memI, runTrF, selF, runTr2, freshOp, scals, AV.scal, xI_block, xI_loopH, xI_condM, xI_exitM, xI_skip, xI_blk, exitA, List.getElem?_cons_zero, List.getElem?_cons_succ, List.getElem?_toArray, List.getElem?_nil, ileb_t, ileb_f, ieqb_t, ieqb_f, inB_t, wrapA_id, lp_read, ieqb_self, Nat.blt_eq, cond_true, cond_false, ty2, ty4, ty24, ty26, ty28, ty33, eK3_0_0, eK3_1_2, eK3_2_4, eK3_3_6, eK3_3_5, eK3_3_4, eK3_4_8, getCells, takeN, dropN, fieldAddrA, allOne, AV.one, n_push, putN, overN, blt_dec, buildA, sizesOf, fillA, putCells, List.take_succ_cons, List.take_zero, List.drop_succ_cons, List.drop_zero, List.nil_append, List.cons_append, List.length_cons, List.length_nil, eqvs_dgs, ty3, ty51, ty55, ty57, convA, ty73, binNil, eqNil, eqStr, eqFs, Bool.and_self, Bool.and_true, c1, n1, s1, c2, l1, l2, l3, l4, c3, c4, l5, c5, c6, n2, s2, l6, hM1, c7, n3, s3, l7, l8, c8]
/-- What the law's cells hold. -/
structure Cl (σ : St) (d e a g : List AV) : Prop where
  d : Bx σ 0 d
  e : Bx σ 1 e
  a : Bx σ 2 a
  g : Bx σ 3 g
theorem Cl.but {σ σ' : St} {d e a g : List AV} {b : Nat} (h : Cl σ d e a g) (hb : 4 ≤ b) (k : But b σ σ') : Cl σ' d e a g := ⟨h.d.but (by omega) k, h.e.but (by omega) k, h.a.but (by omega) k, h.g.but (by omega) k⟩
theorem Cl.old {σ σ' : St} {d e a g : List AV} (h : Cl σ d e a g) (k : Old σ σ') : Cl σ' d e a g := ⟨h.d.old k, h.e.old k, h.a.old k, h.g.old k⟩
theorem FS_n {n D : Nat} {p : List Rat} (h : ChL n D p) : FS (frL p) = .lst n (flat FC (frL p)) := by rw [FS, frL_len, h.len]
theorem m3b (N c M : Nat) (cells rows qs : List AV) (hM : M < 1000000) (d e a g : List AV) : ∀ (m i : Nat) (σ : St), i + m = M → RowE σ 4 2 (flat FC (fil (0, 1) i m)) → Cl σ d e a g → σ.n = 5 →
    ∃ σ', exI TT (FI.of Tryz.f3 (TT.an 3)) K3_1 [(5, .lst N cells), (7, .int .i64 c), (8, .lst c rows), (9, .lst M qs), (11, .ptr 0 0), (13, .ptr 1 0), (15, .ptr 2 0), (17, .ptr 3 0), (19, .int .i64 M), (20, .sl 4 0 M M), (21, .int .i64 i)] σ = exI TT (FI.of Tryz.f3 (TT.an 3)) K3_1 [(5, .lst N cells), (7, .int .i64 c), (8, .lst c rows), (9, .lst M qs), (11, .ptr 0 0), (13, .ptr 1 0), (15, .ptr 2 0), (17, .ptr 3 0), (19, .int .i64 M), (20, .sl 4 0 M M), (21, .int .i64 M)] σ' ∧ RowE σ' 4 2 (flat FC (fil (0, 1) M 0)) ∧ Cl σ' d e a g ∧ σ'.n = 5 := by
  intro m
  induction m with
  | zero =>
    intro i σ hi hr hc hn
    obtain rfl : i = M := by omega
    exact ⟨σ, rfl, hr, hc, hn⟩
  | succ m ih =>
    intro i σ hi hr hc hn
    have hi1 : ((i + 1 : Nat) : Int) = (i : Int) + 1 := by omega
    obtain ⟨σ1, s1, r1, b1⟩ := hr.st (i := i * 2) (ws := FC (0, 1)) (by rw [flat_len FC_len, fil_len]; show i * 2 + 2 ≤ _; omega) (FC_one _)
    rw [flat_set FC_len _ _ _ (by rw [fil_len]; omega), fil_set] at r1
    obtain ⟨σ', k1, k2, k3, k4⟩ := ih (i + 1) σ1 (by omega) r1 (hc.but (by decide) b1) (by rw [b1.1]; exact hn)
    rw [hi1] at k1
    refine ⟨σ', ?_, k2, k3, k4⟩
    rw [← k1]
    exact s3b N c M cells rows qs i σ σ1 (by omega) s1 (wrapA_id (by omega) (by omega))
theorem m3f (M : Nat) (qs : List AV) (hM : M < 1000000) (L : List AV) (d e a g : List AV) : ∀ (m i : Nat) (σ : St), i + m = M → RowE σ 5 2 (flat FC (fil (1, M) i m)) → RowE σ 4 2 L → Cl σ d e a g → σ.n = 6 →
    ∃ σ', exI TT (FI.of Tryz.f3 (TT.an 3)) K3_4 [(9, .lst M qs), (11, .ptr 0 0), (13, .ptr 1 0), (15, .ptr 2 0), (17, .ptr 3 0), (19, .int .i64 M), (20, .sl 4 0 M M), (27, .sl 5 0 M M), (28, .int .i64 i)] σ = exI TT (FI.of Tryz.f3 (TT.an 3)) K3_4 [(9, .lst M qs), (11, .ptr 0 0), (13, .ptr 1 0), (15, .ptr 2 0), (17, .ptr 3 0), (19, .int .i64 M), (20, .sl 4 0 M M), (27, .sl 5 0 M M), (28, .int .i64 M)] σ' ∧ RowE σ' 5 2 (flat FC (fil (1, M) M 0)) ∧ RowE σ' 4 2 L ∧ Cl σ' d e a g ∧ σ'.n = 6 := by
  intro m
  induction m with
  | zero =>
    intro i σ hi hr hL hc hn
    obtain rfl : i = M := by omega
    exact ⟨σ, rfl, hr, hL, hc, hn⟩
  | succ m ih =>
    intro i σ hi hr hL hc hn
    have hi1 : ((i + 1 : Nat) : Int) = (i : Int) + 1 := by omega
    obtain ⟨σ1, s1, r1, b1⟩ := hr.st (i := i * 2) (ws := FC (1, M)) (by rw [flat_len FC_len, fil_len]; show i * 2 + 2 ≤ _; omega) (FC_one _)
    rw [flat_set FC_len _ _ _ (by rw [fil_len]; omega), fil_set] at r1
    obtain ⟨σ', k1, k2, k3, k4, k5⟩ := ih (i + 1) σ1 (by omega) r1 (hL.but (by decide) b1) (hc.but (by decide) b1) (by rw [b1.1]; exact hn)
    rw [hi1] at k1
    refine ⟨σ', ?_, k2, k3, k4, k5⟩
    rw [← k1]
    exact s3f M qs i σ σ1 (by omega) s1 (wrapA_id (by omega) (by omega))
theorem m3d (N : Nat) (l : List Nat) (hl : ∀ r ∈ l, r < 8) (hl3 : l.length ≤ 2) (M : Nat) (cells qs : List AV) (x : Nat) (hx : x < 8) (σ : St) : ∀ (m i y : Nat), i + m = l.length → y < 2 ^ i → exI TT (FI.of Tryz.f3 (TT.an 3)) K3_3 [(5, .lst N cells), (7, .int .i64 l.length), (8, .lst l.length (ints (nintsL l))), (9, .lst M qs), (11, .ptr 0 0), (13, .ptr 1 0), (15, .ptr 2 0), (17, .ptr 3 0), (19, .int .i64 M), (20, .sl 4 0 M M), (22, .int .i64 x), (23, .int .i64 y), (24, .int .i64 i)] σ = exI TT (FI.of Tryz.f3 (TT.an 3)) K3_3 [(5, .lst N cells), (7, .int .i64 l.length), (8, .lst l.length (ints (nintsL l))), (9, .lst M qs), (11, .ptr 0 0), (13, .ptr 1 0), (15, .ptr 2 0), (17, .ptr 3 0), (19, .int .i64 M), (20, .sl 4 0 M M), (22, .int .i64 x), (23, .int .i64 (appR x (l.drop i) i y : Nat)), (24, .int .i64 l.length)] σ := by
  intro m
  induction m with
  | zero =>
    intro i y hi hy
    obtain rfl : i = l.length := by omega
    rw [List.drop_of_length_le (Nat.le_refl _)]
    rfl
  | succ m ih =>
    intro i y hi hy
    have hil : i < l.length := by omega
    have hi1 : ((i + 1 : Nat) : Int) = (i : Int) + 1 := by omega
    have hr := hl _ (List.getElem_mem hil)
    have l1 := lp_read (σ := σ) (l := nintsL l) (i := i) (by simpa [nintsL] using hil)
    have hat : at0 (nintsL l) i = (l[i] : Nat) := by rw [at0, List.getD_eq_getElem?_getD]; simp [nintsL, hil]
    rw [hat] at l1
    have hw := parT_le (l[i] &&& x)
    have hp : 2 ^ i ≤ 2 ^ 2 := Nat.pow_le_pow_right (by decide) (by omega)
    have hp0 := Nat.two_pow_pos i
    have hb : parT (l[i] &&& x) * 2 ^ i ≤ 1 * 2 ^ i := Nat.mul_le_mul_right _ hw
    have hor : y ||| parT (l[i] &&& x) * 2 ^ i = y + 2 ^ i * parT (l[i] &&& x) := Go.Wd.or_shift hy
    have h := ih (i + 1) (y ||| parT (l[i] &&& x) * 2 ^ i) (by omega) (by rw [hor, Nat.pow_succ, Nat.mul_comm (2 ^ i) (parT _)]; omega)
    rw [hi1] at h
    rw [List.drop_eq_getElem_cons hil, appR, ← h]
    have hsh : wrapA .i64 (shlA ((parT (l[i] &&& x) : Nat) : Int) (min i IntKind.i64.bits)) = ((parT (l[i] &&& x) * 2 ^ i : Nat) : Int) := by
      rw [Nat.min_eq_left (by simp [IntKind.bits]; omega), w_shl]
      exact wrapA_id (by omega) (by omega)
    have hs2 : wrapA .i64 ((y : Int) + ((parT (l[i] &&& x) * 2 ^ i : Nat) : Int)) = ((y ||| parT (l[i] &&& x) * 2 ^ i : Nat) : Int) := by
      rw [hor, Nat.mul_comm (2 ^ i)]
      generalize parT (l[i] &&& x) * 2 ^ i = z at *
      rw [wrapA_id (by omega) (by omega)]; omega
    exact s3d N l.length M cells (ints (nintsL l)) qs x i _ _ y _ _ σ hil l1 (fun σ => r14 x l[i] hx hr σ _ rfl) (wrap_un (by omega)) hsh hs2 (wrapA_id (by omega) (by omega))

theorem frL_at {ps : List Rat} {i : Nat} {q : Rat} (h : ps[i]? = some q) : (frL ps)[i]? = some (q.num, (q.den : Int)) := by simp [frL, h]
theorem frL_set (ps : List Rat) (i : Nat) (q : Rat) : (frL ps).set i (q.num, (q.den : Int)) = frL (ps.set i q) := by simp [frL, List.map_set]
theorem m3c (N D : Nat) (p : List Rat) (hch : ChL N D p) (hD : 0 < D) (hD64 : D ≤ 64) (hN : N ≤ 8) (l : List Nat) (hl : ∀ r ∈ l, r < 8) (hl2 : l.length ≤ 2) (qs : List AV) (M : Nat) (hM : M = 2 ^ l.length) (d e a : List AV) (G : Rat) (hG : fits G = true) (hGm : ∀ x ∈ p, x ≤ G) : ∀ (m x : Nat) (σ : St), x + m = N → RowE σ 4 2 (flat FC (frL (exL l p x))) → Cl σ d e a (QC G) → σ.n = 5 →
    ∃ σ', exI TT (FI.of Tryz.f3 (TT.an 3)) K3_2 [(5, .lst N (flat FC (frL p))), (7, .int .i64 l.length), (8, .lst l.length (ints (nintsL l))), (9, .lst M qs), (11, .ptr 0 0), (13, .ptr 1 0), (15, .ptr 2 0), (17, .ptr 3 0), (19, .int .i64 M), (20, .sl 4 0 M M), (22, .int .i64 x)] σ = exI TT (FI.of Tryz.f3 (TT.an 3)) K3_2 [(5, .lst N (flat FC (frL p))), (7, .int .i64 l.length), (8, .lst l.length (ints (nintsL l))), (9, .lst M qs), (11, .ptr 0 0), (13, .ptr 1 0), (15, .ptr 2 0), (17, .ptr 3 0), (19, .int .i64 M), (20, .sl 4 0 M M), (22, .int .i64 N)] σ' ∧ RowE σ' 4 2 (flat FC (frL (exL l p N))) ∧ Cl σ' d e a (QC G) ∧ σ'.n = 5 := by
  intro m
  induction m with
  | zero =>
    intro x σ hx hr hc hn
    obtain rfl : x = N := by omega
    exact ⟨σ, rfl, hr, hc, hn⟩
  | succ m ih =>
    intro x σ hx hr hc hn
    have hx1 : ((x + 1 : Nat) : Int) = (x : Int) + 1 := by omega
    have hxp : x < p.length := by rw [hch.len]; omega
    have hA : appR x l 0 0 < 2 ^ l.length := by have := appR_lt x l 0 0 (by decide); rwa [Nat.zero_add] at this
    have hp := hch.fits hD (by omega)
    have hpx := hp _ (List.getElem_mem hxp)
    have o1 := exT_ok hch hD l (appR x l 0 0) x (by omega)
    have f1 := o1.1.fits hD o1.2 (by omega)
    have e1 : exT l p (appR x l 0 0) x + p[x] = exT l p (appR x l 0 0) (x + 1) := by
      show _ = sumI _ (x + 1)
      rw [sumI, if_pos rfl, atL_of hxp]; rfl
    have o2 := exT_ok hch hD l (appR x l 0 0) (x + 1) (by omega)
    have f2 := o2.1.fits hD o2.2 (by omega)
    rw [← e1] at f2
    have l1 := hr.rd (flat_get FC_len _ _ _ (frL_at (exL_get l p x hA)))
    have l2 : ∀ σ, cellsAt σ (.lp (flat FC (frL p)) (x * 2)) 2 = some (QC p[x]) := fun σ => flat_get FC_len _ _ _ (frL_at (List.getElem?_eq_getElem hxp))
    obtain ⟨σ1, s1, r1, b1⟩ := hr.st (i := appR x l 0 0 * 2) (ws := QC (exT l p (appR x l 0 0) x + p[x])) (by rw [flat_len FC_len, frL_len, exL_len]; show appR x l 0 0 * 2 + 2 ≤ _; omega) rfl
    have r2 : RowE σ1 4 2 (flat FC (frL (exL l p (x + 1)))) := by
      have e2 : QC (exT l p (appR x l 0 0) x + p[x]) = FC ((exT l p (appR x l 0 0) x + p[x]).num, ((exT l p (appR x l 0 0) x + p[x]).den : Int)) := rfl
      rw [e2, flat_set FC_len _ _ _ (by rw [frL_len, exL_len]; exact hA), frL_set, ← atL_of hxp, exL_set] at r1
      exact r1
    have hc1 := hc.but (by decide) b1
    have k2 := fun σ => r16 hG hpx σ
    rw [decide_eq_false (Rat.not_lt.2 (hGm _ (List.getElem_mem hxp)))] at k2
    obtain ⟨σ', k1, k3, k4, k5⟩ := ih (x + 1) σ1 (by omega) r2 hc1 (by rw [b1.1]; exact hn)
    rw [hx1] at k1
    have hin := m3d N l hl hl2 M (flat FC (frL p)) qs x (by omega) σ l.length 0 0 (by omega) (by decide)
    rw [List.drop_zero] at hin
    refine ⟨σ', ?_, k3, k4, k5⟩
    rw [← k1]
    exact (s3c N l.length M _ _ qs x σ (by omega)).trans (hin.trans (e3d N l.length M (flat FC (frL p)) (ints (nintsL l)) qs x (appR x l 0 0) _ _ _ _ _ _ _ _ σ σ1 (by omega) (by omega) l1 l2 (fun σ => r15 f1 hpx f2 σ) s1 (hc1.g.rd rfl) k2 (wrapA_id (by omega) (by omega))))
theorem l3 (m j : Nat) (mo cells : List AV) (hj : j ≤ 3) (σ : St) : ∀ k i : Nat, i + k = j → exI TT (FI.of Tryz.f3 (TT.an 3)) K3_0 [(1, .lst m mo), (5, .lst (2 ^ j) cells), (6, .int .i64 i)] σ = exI TT (FI.of Tryz.f3 (TT.an 3)) K3_0 [(1, .lst m mo), (5, .lst (2 ^ j) cells), (6, .int .i64 j)] σ := by
  intro k
  induction k with
  | zero =>
    intro i hi
    obtain rfl : i = j := by omega
    rfl
  | succ k ih =>
    intro i hi
    have h := ih (i + 1) (by omega)
    have hi1 : ((i + 1 : Nat) : Int) = (i : Int) + 1 := by omega
    rw [hi1] at h
    rw [← h]
    have hlt : 2 ^ i < 2 ^ j := Nat.pow_lt_pow_right (by decide) (by omega)
    exact s3a m (2 ^ j) i _ mo cells σ (wrap_un (by omega)) (pow_sh2 i (by omega)) (by omega) (wrapA_id (by omega) (by omega))
theorem w3 (l : List Nat) (hl : ∀ x ∈ l, x < 256) (l2 : List Nat) (hl2 : ∀ x ∈ l2, x < 256) : FnV TT 3 [.lst l.length (byts l), .lst l2.length (byts l2)] (.bool true) := by
  have c1 := fun σ => v4 l.length l2.length (byts l) (byts l2) σ [.lst l.length (byts l), .lst l2.length (byts l2)] rfl
  cases hb : (decide (1048576 < l.length) || decide (1048576 < l2.length)) with
  | true =>
    rw [hb] at c1
    exact FnV.mk fn3 rfl md3 (z3 _ _ _ _ c1) (fun _ => rfl) rfl
  | false =>
    rw [hb] at c1
    simp only [Bool.or_eq_false_iff, decide_eq_false_iff_not] at hb
    obtain ⟨j, ws, j1, j3, hw, cP⟩ := r5 l hl (by omega)
    obtain ⟨r, hr, cA⟩ := v6 l2 hl2 0 2 (by decide) (by decide)
    have hr2 : r < 2 := by omega
    have hpj : 2 ^ j ≤ 2 ^ 3 := Nat.pow_le_pow_right (by decide) j3
    have hch := wq_ch hw
    have hD := hw.2.2
    have hDb : ws.sum ≤ 64 := by have := hw.2.1.sum; have := hw.1; omega
    rw [chsL_frL] at cP
    generalize wq ws.sum ws = p at *
    generalize ws.sum = D at *
    have hpl : p.length = 2 ^ j := hch.len
    have hp0 : 0 < p.length := by rw [hpl]; exact Nat.two_pow_pos j
    have hf := hch.fits hD (by omega)
    obtain ⟨hs, hnb⟩ := src_of hch rfl j1 j3 hD (by omega)
    have hnj : (1 + r) * j ≤ 2 * 3 := Nat.mul_le_mul (by omega) j3
    have hfa := av_fits (n := 1 + r) (nb := j) hch hD hDb (by omega) (by omega)
    obtain ⟨us, hul, hus, cR⟩ := r7 l2 hl2 (by omega) (1 + r) j (by omega) (by omega)
    have hus8 : ∀ r ∈ us, r < 8 := fun x hx => by have := hus x hx; omega
    have hue := ex_ch hch hD us
    have hfe := hue.fits hD (by omega)
    have cE := r8 us (by omega) (by omega) p hf (by omega) hs j hnb (by omega) hus hfe
    have hfu := un_fits hch hD hDb us (by omega)
    have cD := r9 us (by omega) (by omega) p hf (by omega) hs j hnb (by omega) hus hfu
    have cV := r10 (1 + r) j (by omega) (by omega) (by omega) (by omega) p hf (by omega) hs hnb hfa
    have cC := r11 (frL p) (by rw [frL_len]; omega)
    have cG := r12 (frL p) (by rw [frL_len]; omega)
    have cS := r13 (frL p) (by rw [frL_len]; omega)
    rw [valCol, if_pos hs, frL_rq] at cC
    rw [valGreat, if_pos hs] at cG
    rw [hs] at cS
    obtain ⟨oC, lC, pC⟩ := col_ok hch hD
    have hDD : D * D ≤ 64 * 64 := Nat.mul_le_mul hDb hDb
    have hfc := oC.fits (Nat.mul_pos hD hD) lC (by omega)
    rw [frA_yes hfc] at cC
    obtain ⟨G, hGp, hGe, hGm⟩ := great_of hp0
    have hfG := hf G hGp
    rw [hGe] at cG
    have hGG := great_col hch hD hGp
    have oG := hch.ov G hGp
    have hfGG := (oG.mul oG).fits (Nat.mul_pos hD hD) (Rat.le_trans hGG lC) (by omega)
    obtain ⟨A, hA0, hA1, oA, lA, pA⟩ := av_ok (n := 1 + r) (nb := j) hch hD hDb (by omega) (by omega)
    have hAA : A * A ≤ 32768 * 32768 := Nat.mul_le_mul hA1 hA1
    have lAA : avQ (1 + r) j p * avQ (1 + r) j p ≤ 1 := by
      have := Rat.mul_le_mul_of_nonneg_left lA pA
      rw [Rat.mul_one] at this
      exact Rat.le_trans this lA
    have hfAA := (oA.mul oA).fits (Nat.mul_pos hA0 hA0) lAA (by omega)
    have o4 : Ov 1 (4 : Rat) := ⟨4, by decide +kernel⟩
    have hf4 : fits (4 : Rat) = true := by decide +kernel
    have l4 : avQ (1 + r) j p * avQ (1 + r) j p * 4 ≤ ((4 : Nat) : Rat) := by
      have : ((4 : Nat) : Rat) = 4 := rfl
      grind
    have hfL := ov_fitsK (K := 4) ((oA.mul oA).mul o4) (by rw [Nat.mul_one]; exact Nat.mul_pos hA0 hA0) l4 (by omega) (by omega)
    have hM24 : 2 ^ us.length = 2 ∨ 2 ^ us.length = 4 := by
      have : r = 0 ∨ r = 1 := by omega
      rcases this with rfl | rfl <;> rw [hul] <;> decide
    have hM1 : ((2 ^ us.length : Nat) : Rat) - 1 = (((2 ^ us.length : Nat) : Int) - 1 : Int) := by
      rcases hM24 with h | h <;> rw [h] <;> decide +kernel
    have hsq := av_sq (n := 1 + r) (nb := j) hch rfl hD j1 j3 (by omega) (by omega)
    rw [← col_eq hch, ← hul, hM1] at hsq
    generalize hS : ((((2 ^ us.length : Nat) : Int) - 1 : Int) : Rat) = S at *
    have hSf : fits S = true ∧ Ov 1 S ∧ S ≤ 3 ∧ S.num = ((2 ^ us.length : Nat) : Int) - 1 ∧ S.den = 1 := by
      rw [← hS]
      refine ⟨?_, ?_, ?_, rfl, rfl⟩
      · rcases hM24 with h | h <;> rw [h] <;> decide +kernel
      · rcases hM24 with h | h <;> rw [h]
        · exact ⟨1, by decide +kernel⟩
        · exact ⟨3, by decide +kernel⟩
      · rcases hM24 with h | h <;> rw [h] <;> decide +kernel
    obtain ⟨hSf, oS, lS, nS, dS⟩ := hSf
    have lR : colQ p * S ≤ ((3 : Nat) : Rat) := by
      have h1 := Rat.mul_le_mul_of_nonneg_left lS pC
      have : ((3 : Nat) : Rat) = 3 := rfl
      grind
    have hfR := ov_fitsK (K := 3) (oC.mul oS) (by rw [Nat.mul_one]; exact Nat.mul_pos hD hD) lR (by omega) (by omega)
    have hfin : ¬ colQ p * S < avQ (1 + r) j p * avQ (1 + r) j p * 4 := Rat.not_lt.2 (by rw [hul] at hsq; grind)
    -- the heap
    obtain ⟨σ1, a1, a2, a3, a4⟩ := new_box (σ := (⟨[], 0⟩ : St)) (z := [.int .i64 0, .int .i64 0]) (x := QC (unQ us p)) (m := 2) rfl rfl
    obtain ⟨σ2, q1, q2, q3, q4⟩ := new_box (σ := σ1) (z := [.int .i64 0, .int .i64 0]) (x := QC (avQ (1 + r) j p)) (m := 2) rfl rfl
    obtain ⟨σ3, g1, g2, g3, g4⟩ := new_box (σ := σ2) (z := [.int .i64 0, .int .i64 0]) (x := QC (colQ p)) (m := 2) rfl rfl
    obtain ⟨σ4, j1', j2', j3', j4'⟩ := new_box (σ := σ3) (z := [.int .i64 0, .int .i64 0]) (x := QC G) (m := 2) rfl rfl
    have n1 : σ1.n = 1 := a4
    have n2 : σ2.n = 2 := by omega
    have n3 : σ3.n = 3 := by omega
    have n4 : σ4.n = 4 := by omega
    rw [n1] at q1 q2
    rw [n2] at g1 g2
    rw [n3] at j1' j2'
    have cl4 : Cl σ4 (QC (unQ us p)) (QC (avQ (1 + r) j p)) (QC (colQ p)) (QC G) := ⟨((a2.old q3).old g3).old j3', (q2.old g3).old j3', g2.old j3', j2'⟩
    have hmk := make_el (T := TT) (σ := σ4) (n := 2 ^ us.length) ty24 ty33 (by decide) (by omega)
    rw [n4] at hmk
    have row5 := RowE.push (σ := σ4) (cs := repeatCells [.int .i64 0, .int .i64 0] (2 ^ us.length)) (e := 2) (o := false)
    rw [n4, fil_zero (0, 1)] at row5
    have cl5 := cl4.old (Old.push (x := ⟨repeatCells [.int .i64 0, .int .i64 0] (2 ^ us.length), 2, false⟩))
    obtain ⟨σ6, w1, w2, w3, w4⟩ := m3b (2 ^ j) us.length (2 ^ us.length) (flat FC (frL p)) (ints (nintsL us)) (flat FC (frL (exL us p p.length))) (by omega) _ _ _ _ (2 ^ us.length) 0 _ (by omega) (by rw [← fil_zero] at row5 ⊢; exact row5) cl5 (by rw [n_push]; omega)
    rw [← ex_zero us p] at w2
    obtain ⟨σ7, x1, x2, x3, x4⟩ := m3c (2 ^ j) D p hch hD hDb hpj us hus8 (by omega) (flat FC (frL (exL us p p.length))) (2 ^ us.length) rfl _ _ _ G hfG hGm (2 ^ j) 0 σ6 (by omega) w2 w3 w4
    have hmk2 := make_el (T := TT) (σ := σ7) (n := 2 ^ us.length) ty24 ty33 (by decide) (by omega)
    rw [x4] at hmk2
    have row8 := RowE.push (σ := σ7) (cs := repeatCells [.int .i64 0, .int .i64 0] (2 ^ us.length)) (e := 2) (o := false)
    rw [x4, fil_zero (1, (2 ^ us.length : Nat))] at row8
    have cl8 := x3.old (Old.push (x := ⟨repeatCells [.int .i64 0, .int .i64 0] (2 ^ us.length), 2, false⟩))
    have own8 := x2.old (Old.push (x := ⟨repeatCells [.int .i64 0, .int .i64 0] (2 ^ us.length), 2, false⟩))
    obtain ⟨σ9, y1, y2, y3, y4, y5⟩ := m3f (2 ^ us.length) (flat FC (frL (exL us p p.length))) (by omega) _ _ _ _ _ (2 ^ us.length) 0 _ (by omega) (by rw [← fil_zero] at row8 ⊢; exact row8) own8 cl8 (by rw [n_push]; omega)
    rw [← ev_fil hM24] at y2
    rw [← hpl] at y3
    have hev := ev_ch (N := 2 ^ us.length) (Nat.two_pow_pos _)
    have cF := r17 (frL (exL us p p.length)) (frL (evQ (2 ^ us.length))) (by rw [frL_len, exL_len]; omega) (by rw [frL_len, hev.len]; omega)
    have hc1 := hue.isCh (by omega) (by omega) hD (by omega)
    have hc2 := hev.isCh (by omega) (by omega) (by omega) (by omega)
    have hvd : valDist (frL (exL us p p.length)) (frL (evQ (2 ^ us.length))) = .tup [.agg (QC (unQ us p)), .bool true] := by
      unfold valDist
      rw [hc1, hc2, frL_len, frL_len, exL_len, hev.len, decide_eq_true rfl, frL_rq, frL_rq]
      exact frA_yes hfu
    rw [hvd] at cF
    have eE : FS (frL (exL us p p.length)) = .lst (2 ^ us.length) (flat FC (frL (exL us p p.length))) := by rw [FS, frL_len, exL_len]
    have eV : FS (frL (evQ (2 ^ us.length))) = .lst (2 ^ us.length) (flat FC (frL (evQ (2 ^ us.length)))) := by rw [FS, frL_len, hev.len]
    have fz : ∀ σ : St, frzV σ frzDepth (.lst (2 ^ us.length) (flat FC (frL (exL us p p.length)))) = some (.lst (2 ^ us.length) (flat FC (frL (exL us p p.length)))) := fun _ => rfl
    have cF9 := cF σ9 [.lst (2 ^ us.length) (flat FC (frL (exL us p p.length))), .sl 5 0 (2 ^ us.length) (2 ^ us.length)] (by
      rw [eE, eV]
      exact mapO_cons rfl (mapO_cons (y2.frz (by rw [flat_len FC_len, frL_len, hev.len]) (FC_frz' σ9 _ _) (Nat.le_refl _)) rfl))
    obtain ⟨τ1, t1, t2, t3, t4⟩ := new_box (σ := σ9) (z := [.int .i64 0, .int .i64 0]) (x := QC (unQ us p)) (m := 2) rfl rfl
    obtain ⟨τ2, u1, u2, u3, u4⟩ := new_box (σ := τ1) (z := [.int .i64 0, .int .i64 0]) (x := QC (avQ (1 + r) j p * avQ (1 + r) j p * 4)) (m := 2) rfl rfl
    obtain ⟨τ3, v1, v2, v3, v4⟩ := new_box (σ := τ2) (z := [.int .i64 0, .int .i64 0]) (x := QC (colQ p * S)) (m := 2) rfl rfl
    have m1 : τ1.n = 7 := by omega
    have m2 : τ2.n = 8 := by omega
    rw [y5] at t1 t2
    rw [m1] at u1 u2
    rw [m2] at v1 v2
    have clt := y4.old t3
    have cB := r18 (frL (exL us p p.length)) (by rw [frL_len, exL_len]; omega) τ1 [.lst (2 ^ us.length) (flat FC (frL (exL us p p.length))), .sl 4 0 (2 ^ us.length) (2 ^ us.length)] (by
      rw [eE]
      exact mapO_cons rfl (mapO_cons ((y3.old t3).frz (by rw [flat_len FC_len, frL_len, exL_len]) (FC_frz' τ1 _ _) (Nat.le_refl _)) rfl))
    have k4 := fun σ => r16 hfc hfGG σ
    rw [decide_eq_false (Rat.not_lt.2 hGG)] at k4
    have k8 := fun σ => r16 hfR hfL σ
    rw [decide_eq_false hfin] at k8
    have c7 := fun σ => r19 hfc hSf hfR σ
    have eS : QC S = [.int .i64 (((2 ^ us.length : Nat) : Int) - 1), .int .i64 1] := by show [AV.int .i64 S.num, AV.int .i64 (S.den : Int)] = _; rw [nS, dS]; rfl
    rw [eS] at c7
    rw [FS_n hch] at cP cE cD cV cC cG cS
    have hbeg := b3e l.length l2.length (2 ^ j) (byts l) (byts l2) (flat FC (frL p)) ⟨[], 0⟩ c1 (fun σ => cP.pure σ rfl rfl)
    have hloop := l3 l2.length j (byts l2) (flat FC (frL p)) j3 ⟨[], 0⟩ (j - 1) 1 (by omega)
    rw [eE] at cE
    rw [← hul] at cR cV
    have hexa := e3a l2.length (2 ^ j) j us.length r (2 ^ us.length) ((2 ^ j : Nat) : Int) _ _ _ _ _ _ _ _ (byts l2) (flat FC (frL p)) (ints (nintsL us)) (flat FC (frL (exL us p p.length))) ⟨[], 0⟩ σ1 σ2 σ3 σ4 _ (wrap_un (by omega)) (pow_sh2 j (by omega)) (by omega) (fun σ => cA σ _ rfl) (by rw [wrapA_id (by omega) (by omega), hul]; omega) (fun σ => cR.pure σ rfl rfl) (fun σ => cE.pure σ rfl rfl) (fun σ => cD σ _ rfl) rfl a1 (fun σ => cV σ _ rfl) n1 (by rw [hul]; exact q1) (fun σ => cC σ _ rfl) n2 g1 (fun σ => cG σ _ rfl) n3 j1' (wrap_un (by omega)) (pow_sh2 us.length (by omega)) (fun σ => cS σ _ rfl) hmk
    have hexf := e3f (2 ^ us.length) (flat FC (frL (exL us p p.length))) _ _ _ _ _ _ _ _ _ _ _ _ _ _ _ _ _ σ9 τ1 τ2 τ3 cF9 y5 t1 cB (t2.rd rfl) (clt.d.rd rfl) (clt.a.rd rfl) (clt.g.rd rfl) (fun σ => r19 hfG hfG hfGG σ) k4 (clt.e.rd rfl) (fun σ => r19 hfa hfa hfAA σ) (fun σ => r19 hfAA hf4 hfL σ) m1 u1 ((clt.a.old u3).rd rfl) (wrapA_id (by omega) (by omega)) c7 m2 v1 (v2.rd rfl) ((u2.old v3).rd rfl) k8
    exact FnV.mk (c := b3) fn3 rfl md3 ⟨τ3, hbeg.trans (hloop.trans (hexa.trans (w1.trans ((e3b _ _ _ _ _ _ _).trans (x1.trans ((e3c _ _ _ _ _ _ _ _ hmk2).trans (y1.trans hexf)))))))⟩ (fun _ => rfl) rfl

end Go.Proofs.YtkglajdhlmmlfaaGreat
