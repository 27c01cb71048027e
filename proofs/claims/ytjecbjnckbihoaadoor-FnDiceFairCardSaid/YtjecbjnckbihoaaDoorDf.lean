/- The law of rolls by rejection and by dice. Nothing is claimed here; no condition. -/
import Derived.Test.YtjecbjnckbihoaaDoorDe
namespace Go.Proofs.YtjecbjnckbihoaaDoor
open Go Go.Abs
set_option linter.unusedSimpArgs false
set_option linter.unusedVariables false
open Go.Wd
open Go.Nm
/-- How often each number has come. -/
def cL (g : Nat → Option (Nat × Nat)) (n x : Nat) : List Nat := (List.range n).map fun i => sm (fun y => cnt i (g y)) x
theorem cL_len (g : Nat → Option (Nat × Nat)) (n x : Nat) : (cL g n x).length = n := by simp [cL]
theorem cL_get {g : Nat → Option (Nat × Nat)} {n x i : Nat} (h : i < n) : (cL g n x)[i]? = some (sm (fun y => cnt i (g y)) x) := by simp [cL, h]
theorem cL_set {g : Nat → Option (Nat × Nat)} {n x a b : Nat} (h : g x = some (a, b)) (ha : a < n) : (cL g n x).set a (sm (fun y => cnt a (g y)) x + 1) = cL g n (x + 1) := by
  apply List.ext_getElem?
  intro i
  rw [List.getElem?_set]
  by_cases hi : i < n
  · rw [cL_get hi, cL_get hi, cL_len]
    by_cases hai : a = i
    · subst hai
      rw [if_pos rfl, if_pos ha, sm, h, cnt, if_pos rfl]
    · rw [if_neg hai, sm, h, cnt, if_neg hai]; rfl
  · rw [List.getElem?_eq_none (by rw [cL_len]; omega), List.getElem?_eq_none (by rw [cL_len]; omega), if_neg (by omega)]
theorem cL_none {g : Nat → Option (Nat × Nat)} {n x : Nat} (h : g x = none) : cL g n (x + 1) = cL g n x := by
  unfold cL
  refine List.map_congr_left fun i _ => ?_
  rw [sm, h]; rfl
theorem cL_zero (g : Nat → Option (Nat × Nat)) (n : Nat) : cL g n 0 = List.replicate n 0 := by
  simp [cL, sm, List.map_const']
theorem nints_set (l : List Nat) (i x : Nat) : (nints l).set i (x : Int) = nints (l.set i x) := by simp [nints, List.map_set]
theorem nints_at {l : List Nat} {i x : Nat} (h : l[i]? = some x) : (nints l)[i]? = some (x : Int) := by simp only [nints, List.getElem?_map, h]; rfl

noncomputable def b3 : Code := Tryd.f3.body.getD .skip
noncomputable def B3_0 : Code := (bodyC (bodyC (sndC (fstC (sndC (sndC (sndC (sndC (sndC (sndC (sndC b3)))))))))))
noncomputable def K3_0 : List It := .lp B3_0 :: .blk 0 :: .code (sndC (sndC (sndC (sndC (sndC (sndC (sndC (sndC b3)))))))) :: []
theorem xl3_0 {fi : FI} {env : Env} {σ : St} : exI TT fi K3_0 env σ = exI TT fi (.code B3_0 :: K3_0) env σ := by unfold K3_0; exact xI_lp
noncomputable def R3_0_0 : List It := .code (sndC (sndC (sndC (sndC (sndC (sndC (sndC (sndC b3)))))))) :: []
theorem eK3_0_0 : exitA 0 K3_0 = some R3_0_0 := rfl
noncomputable def B3_1 : Code := (bodyC (bodyC (sndC (fstC (sndC (sndC (sndC (sndC (sndC (sndC (sndC (sndC b3))))))))))))
noncomputable def K3_1 : List It := .lp B3_1 :: .blk 2 :: .code (sndC (sndC (sndC (sndC (sndC (sndC (sndC (sndC (sndC b3))))))))) :: []
theorem xl3_1 {fi : FI} {env : Env} {σ : St} : exI TT fi K3_1 env σ = exI TT fi (.code B3_1 :: K3_1) env σ := by unfold K3_1; exact xI_lp
noncomputable def R3_1_2 : List It := .code (sndC (sndC (sndC (sndC (sndC (sndC (sndC (sndC (sndC b3))))))))) :: []
theorem eK3_1_2 : exitA 2 K3_1 = some R3_1_2 := rfl
noncomputable def B3_2 : Code := (bodyC (bodyC (sndC (fstC (sndC (sndC (sndC (sndC (sndC (sndC (sndC (sndC (sndC (sndC b3))))))))))))))
noncomputable def K3_2 : List It := .lp B3_2 :: .blk 4 :: .code (sndC (sndC (sndC (sndC (sndC (sndC (sndC (sndC (sndC (sndC (sndC b3))))))))))) :: []
theorem xl3_2 {fi : FI} {env : Env} {σ : St} : exI TT fi K3_2 env σ = exI TT fi (.code B3_2 :: K3_2) env σ := by unfold K3_2; exact xI_lp
noncomputable def R3_2_4 : List It := .code (sndC (sndC (sndC (sndC (sndC (sndC (sndC (sndC (sndC (sndC (sndC b3))))))))))) :: []
theorem eK3_2_4 : exitA 4 K3_2 = some R3_2_4 := rfl
set_option maxHeartbeats 2000000 in
theorem s3yy (n sz x op : Nat) (bt : List UInt8) (σ : St) (a b y1 : Nat) (σ1 : St) (c d y2 : Nat) (σ2 : St) (hs : sz ≤ 10) (hn : n ≤ 32) (hx : x < 2 ^ sz) (ho : op ≤ 2000) (c1 : callI TT 6 [.int .i64 x, .int .i64 sz] σ = some (.str bt, σ)) (c2 : callI TT 7 [.int .i64 n, .str bt] σ = some (.tup [.int .i64 a, .int .i64 b, .bool true], σ)) (c3 : callI TT 8 [.int .i64 n, .str bt] σ = some (.tup [.int .i64 c, .int .i64 d, .bool true], σ)) (ha : a < n) (hb : b ≤ sz) (hy1 : y1 ≤ 2000) (rd1 : cellsAt σ (.ptr 0 a) 1 = some [.int .i64 y1]) (st1 : storeCellsA σ 0 a [.int .i64 (y1 + 1 : Nat)] = some σ1) (hc : c < n) (hd : d ≤ sz) (hy2 : y2 ≤ 2000) (rd2 : cellsAt σ1 (.ptr 1 c) 1 = some [.int .i64 y2]) (st2 : storeCellsA σ1 1 c [.int .i64 (y2 + 1 : Nat)] = some σ2) :
    exI TT (FI.of Tryd.f3 (TT.an 3)) K3_0 [(5, .int .i64 n), (6, .int .i64 sz), (7, .sl 0 0 n n), (8, .sl 1 0 n n), (9, .int .i64 op), (10, .int .i64 x)] σ = exI TT (FI.of Tryd.f3 (TT.an 3)) K3_0 [(5, .int .i64 n), (6, .int .i64 sz), (7, .sl 0 0 n n), (8, .sl 1 0 n n), (9, .int .i64 op), (10, .int .i64 ((x : Int) + 1))] σ2 := by
  have hp : 2 ^ sz ≤ 2 ^ 10 := Nat.pow_le_pow_right (by decide) hs
  have t1 := sh_1 (b := sz) (by omega)
  rw [show pw sz = 2 ^ sz from rfl] at t1
  have t2 : wrapA .u64 (sz : Int) = (sz : Int) := n_wrapu (by omega)
  have hlt : (x : Int) < ((2 ^ sz : Nat) : Int) := by omega
  have hnl : ¬ 2 ^ sz ≤ x := by omega
  have w1 : wrapA .i64 ((x : Int) + 1) = (x : Int) + 1 := wrapA_id (by omega) (by omega)
  have a1 : ¬ (a : Int) < 0 := by omega
  have a2 : ¬ (n : Int) ≤ (a : Int) := by omega
  have a2' : ¬ n ≤ a := by omega
  have a3 : ¬ (sz : Int) < (b : Int) := by omega
  have a3' : ¬ sz < b := by omega
  have a4 : (a : Int) < (n : Int) := by omega
  have a5 : wrapA .i64 ((y1 : Int) + 1) = ((y1 + 1 : Nat) : Int) := by rw [wrapA_id (by omega) (by omega)]; omega
  have z1 : ¬ (c : Int) < 0 := by omega
  have z2 : ¬ (n : Int) ≤ (c : Int) := by omega
  have z2' : ¬ n ≤ c := by omega
  have z3 : ¬ (sz : Int) < (d : Int) := by omega
  have z3' : ¬ sz < d := by omega
  have z4 : (c : Int) < (n : Int) := by omega
  have z5 : wrapA .i64 ((y2 : Int) + 1) = ((y2 + 1 : Nat) : Int) := by rw [wrapA_id (by omega) (by omega)]; omega
  generalize 2 ^ sz = P at *
  generalize y1 + 1 = y11 at *
  generalize y2 + 1 = y21 at *
  rw [fi3]
  conv => lhs; rw [xl3_0]
  simp only [B3_0, b3, Tryd.f3, Option.getD, fstC, sndC, bodyC, thnC, elsC]
  simp [xI_seq, xI_region, xI_ret, regA, regOps, runOps, opStep, wantedA, opA, evo, evos, calleeA, lk, nif_eq, putE, paramsE, valS, val2, keepE, restrict, finA, resA, binA, binInt, ofConst, ofConst1, loadA, TK.isAgg, asVar, unA, builtinA, lenOpA, lenA, ileb_cast, ileb_eq, ieqb_dec, indexAddrA, inB_dec, evPairs, storeA, AV.cellsOf, pairsOf, xI_nil, binBool, gcE, evOpt, tagZ, isI64, pureLd, loadP, boxP, xI_block, xI_loopH, xI_condM, xI_exitM, xI_skip, xI_blk, exitA, ty2, ty3, ty25, ty26, ty31, eK3_0_0, eK3_1_2, eK3_2_4, runTr, pairsOk, pairOk, lstAt, lastOf, sameVal, AV.eqv, eqvs, eqvs_ints, regOps, blt_dec, cond_true, cond_false, fieldAddrA, allOne, AV.one, buildA, sizesOf, fillA, putCells, n_push, indexA, ty2, ty9, ty5, ty3, ty26, convA, ty3, ty25, t1, t2, hlt, hnl, hx, w1, c1, c2, c3, a1, a2, a2', a3, a3', a4, a5, rd1, st1, ha, hb, z1, z2, z2', z3, z3', z4, z5, rd2, st2, hc, hd]

set_option maxHeartbeats 2000000 in
theorem s3yn (n sz x op : Nat) (bt : List UInt8) (σ : St) (a b y1 : Nat) (σ1 : St) (hs : sz ≤ 10) (hn : n ≤ 32) (hx : x < 2 ^ sz) (ho : op ≤ 2000) (c1 : callI TT 6 [.int .i64 x, .int .i64 sz] σ = some (.str bt, σ)) (c2 : callI TT 7 [.int .i64 n, .str bt] σ = some (.tup [.int .i64 a, .int .i64 b, .bool true], σ)) (c3 : callI TT 8 [.int .i64 n, .str bt] σ = some (.tup [.int .i64 0, .int .i64 0, .bool false], σ)) (ha : a < n) (hb : b ≤ sz) (hy1 : y1 ≤ 2000) (rd1 : cellsAt σ (.ptr 0 a) 1 = some [.int .i64 y1]) (st1 : storeCellsA σ 0 a [.int .i64 (y1 + 1 : Nat)] = some σ1) :
    exI TT (FI.of Tryd.f3 (TT.an 3)) K3_0 [(5, .int .i64 n), (6, .int .i64 sz), (7, .sl 0 0 n n), (8, .sl 1 0 n n), (9, .int .i64 op), (10, .int .i64 x)] σ = exI TT (FI.of Tryd.f3 (TT.an 3)) K3_0 [(5, .int .i64 n), (6, .int .i64 sz), (7, .sl 0 0 n n), (8, .sl 1 0 n n), (9, .int .i64 (op + 1 : Nat)), (10, .int .i64 ((x : Int) + 1))] σ1 := by
  have hp : 2 ^ sz ≤ 2 ^ 10 := Nat.pow_le_pow_right (by decide) hs
  have t1 := sh_1 (b := sz) (by omega)
  rw [show pw sz = 2 ^ sz from rfl] at t1
  have t2 : wrapA .u64 (sz : Int) = (sz : Int) := n_wrapu (by omega)
  have hlt : (x : Int) < ((2 ^ sz : Nat) : Int) := by omega
  have hnl : ¬ 2 ^ sz ≤ x := by omega
  have w1 : wrapA .i64 ((x : Int) + 1) = (x : Int) + 1 := wrapA_id (by omega) (by omega)
  have a1 : ¬ (a : Int) < 0 := by omega
  have a2 : ¬ (n : Int) ≤ (a : Int) := by omega
  have a2' : ¬ n ≤ a := by omega
  have a3 : ¬ (sz : Int) < (b : Int) := by omega
  have a3' : ¬ sz < b := by omega
  have a4 : (a : Int) < (n : Int) := by omega
  have a5 : wrapA .i64 ((y1 : Int) + 1) = ((y1 + 1 : Nat) : Int) := by rw [wrapA_id (by omega) (by omega)]; omega
  have o1 : wrapA .i64 ((op : Int) + 1) = ((op + 1 : Nat) : Int) := by rw [wrapA_id (by omega) (by omega)]; omega
  generalize 2 ^ sz = P at *
  generalize y1 + 1 = y11 at *
  generalize op + 1 = op1 at *
  rw [fi3]
  conv => lhs; rw [xl3_0]
  simp only [B3_0, b3, Tryd.f3, Option.getD, fstC, sndC, bodyC, thnC, elsC]
  simp [xI_seq, xI_region, xI_ret, regA, regOps, runOps, opStep, wantedA, opA, evo, evos, calleeA, lk, nif_eq, putE, paramsE, valS, val2, keepE, restrict, finA, resA, binA, binInt, ofConst, ofConst1, loadA, TK.isAgg, asVar, unA, builtinA, lenOpA, lenA, ileb_cast, ileb_eq, ieqb_dec, indexAddrA, inB_dec, evPairs, storeA, AV.cellsOf, pairsOf, xI_nil, binBool, gcE, evOpt, tagZ, isI64, pureLd, loadP, boxP, xI_block, xI_loopH, xI_condM, xI_exitM, xI_skip, xI_blk, exitA, ty2, ty3, ty25, ty26, ty31, eK3_0_0, eK3_1_2, eK3_2_4, runTr, pairsOk, pairOk, lstAt, lastOf, sameVal, AV.eqv, eqvs, eqvs_ints, regOps, blt_dec, cond_true, cond_false, fieldAddrA, allOne, AV.one, buildA, sizesOf, fillA, putCells, n_push, indexA, ty2, ty9, ty5, ty3, ty26, convA, ty3, ty25, t1, t2, hlt, hnl, hx, w1, c1, c2, c3, a1, a2, a2', a3, a3', a4, a5, rd1, st1, ha, hb, o1]

set_option maxHeartbeats 2000000 in
theorem s3ny (n sz x op : Nat) (bt : List UInt8) (σ : St) (c d y2 : Nat) (σ2 : St) (hs : sz ≤ 10) (hn : n ≤ 32) (hx : x < 2 ^ sz) (ho : op ≤ 2000) (c1 : callI TT 6 [.int .i64 x, .int .i64 sz] σ = some (.str bt, σ)) (c2 : callI TT 7 [.int .i64 n, .str bt] σ = some (.tup [.int .i64 0, .int .i64 0, .bool false], σ)) (c3 : callI TT 8 [.int .i64 n, .str bt] σ = some (.tup [.int .i64 c, .int .i64 d, .bool true], σ)) (hc : c < n) (hd : d ≤ sz) (hy2 : y2 ≤ 2000) (rd2 : cellsAt σ (.ptr 1 c) 1 = some [.int .i64 y2]) (st2 : storeCellsA σ 1 c [.int .i64 (y2 + 1 : Nat)] = some σ2) :
    exI TT (FI.of Tryd.f3 (TT.an 3)) K3_0 [(5, .int .i64 n), (6, .int .i64 sz), (7, .sl 0 0 n n), (8, .sl 1 0 n n), (9, .int .i64 op), (10, .int .i64 x)] σ = exI TT (FI.of Tryd.f3 (TT.an 3)) K3_0 [(5, .int .i64 n), (6, .int .i64 sz), (7, .sl 0 0 n n), (8, .sl 1 0 n n), (9, .int .i64 op), (10, .int .i64 ((x : Int) + 1))] σ2 := by
  have hp : 2 ^ sz ≤ 2 ^ 10 := Nat.pow_le_pow_right (by decide) hs
  have t1 := sh_1 (b := sz) (by omega)
  rw [show pw sz = 2 ^ sz from rfl] at t1
  have t2 : wrapA .u64 (sz : Int) = (sz : Int) := n_wrapu (by omega)
  have hlt : (x : Int) < ((2 ^ sz : Nat) : Int) := by omega
  have hnl : ¬ 2 ^ sz ≤ x := by omega
  have w1 : wrapA .i64 ((x : Int) + 1) = (x : Int) + 1 := wrapA_id (by omega) (by omega)
  have z1 : ¬ (c : Int) < 0 := by omega
  have z2 : ¬ (n : Int) ≤ (c : Int) := by omega
  have z2' : ¬ n ≤ c := by omega
  have z3 : ¬ (sz : Int) < (d : Int) := by omega
  have z3' : ¬ sz < d := by omega
  have z4 : (c : Int) < (n : Int) := by omega
  have z5 : wrapA .i64 ((y2 : Int) + 1) = ((y2 + 1 : Nat) : Int) := by rw [wrapA_id (by omega) (by omega)]; omega
  generalize 2 ^ sz = P at *
  generalize y2 + 1 = y21 at *
  rw [fi3]
  conv => lhs; rw [xl3_0]
  simp only [B3_0, b3, Tryd.f3, Option.getD, fstC, sndC, bodyC, thnC, elsC]
  simp [xI_seq, xI_region, xI_ret, regA, regOps, runOps, opStep, wantedA, opA, evo, evos, calleeA, lk, nif_eq, putE, paramsE, valS, val2, keepE, restrict, finA, resA, binA, binInt, ofConst, ofConst1, loadA, TK.isAgg, asVar, unA, builtinA, lenOpA, lenA, ileb_cast, ileb_eq, ieqb_dec, indexAddrA, inB_dec, evPairs, storeA, AV.cellsOf, pairsOf, xI_nil, binBool, gcE, evOpt, tagZ, isI64, pureLd, loadP, boxP, xI_block, xI_loopH, xI_condM, xI_exitM, xI_skip, xI_blk, exitA, ty2, ty3, ty25, ty26, ty31, eK3_0_0, eK3_1_2, eK3_2_4, runTr, pairsOk, pairOk, lstAt, lastOf, sameVal, AV.eqv, eqvs, eqvs_ints, regOps, blt_dec, cond_true, cond_false, fieldAddrA, allOne, AV.one, buildA, sizesOf, fillA, putCells, n_push, indexA, ty2, ty9, ty5, ty3, ty26, convA, ty3, ty25, t1, t2, hlt, hnl, hx, w1, c1, c2, c3, z1, z2, z2', z3, z3', z4, z5, rd2, st2, hc, hd]

set_option maxHeartbeats 2000000 in
theorem s3nn (n sz x op : Nat) (bt : List UInt8) (σ : St) (hs : sz ≤ 10) (hn : n ≤ 32) (hx : x < 2 ^ sz) (ho : op ≤ 2000) (c1 : callI TT 6 [.int .i64 x, .int .i64 sz] σ = some (.str bt, σ)) (c2 : callI TT 7 [.int .i64 n, .str bt] σ = some (.tup [.int .i64 0, .int .i64 0, .bool false], σ)) (c3 : callI TT 8 [.int .i64 n, .str bt] σ = some (.tup [.int .i64 0, .int .i64 0, .bool false], σ)) :
    exI TT (FI.of Tryd.f3 (TT.an 3)) K3_0 [(5, .int .i64 n), (6, .int .i64 sz), (7, .sl 0 0 n n), (8, .sl 1 0 n n), (9, .int .i64 op), (10, .int .i64 x)] σ = exI TT (FI.of Tryd.f3 (TT.an 3)) K3_0 [(5, .int .i64 n), (6, .int .i64 sz), (7, .sl 0 0 n n), (8, .sl 1 0 n n), (9, .int .i64 (op + 1 : Nat)), (10, .int .i64 ((x : Int) + 1))] σ := by
  have hp : 2 ^ sz ≤ 2 ^ 10 := Nat.pow_le_pow_right (by decide) hs
  have t1 := sh_1 (b := sz) (by omega)
  rw [show pw sz = 2 ^ sz from rfl] at t1
  have t2 : wrapA .u64 (sz : Int) = (sz : Int) := n_wrapu (by omega)
  have hlt : (x : Int) < ((2 ^ sz : Nat) : Int) := by omega
  have hnl : ¬ 2 ^ sz ≤ x := by omega
  have w1 : wrapA .i64 ((x : Int) + 1) = (x : Int) + 1 := wrapA_id (by omega) (by omega)
  have o1 : wrapA .i64 ((op : Int) + 1) = ((op + 1 : Nat) : Int) := by rw [wrapA_id (by omega) (by omega)]; omega
  generalize 2 ^ sz = P at *
  generalize op + 1 = op1 at *
  rw [fi3]
  conv => lhs; rw [xl3_0]
  simp only [B3_0, b3, Tryd.f3, Option.getD, fstC, sndC, bodyC, thnC, elsC]
  simp [xI_seq, xI_region, xI_ret, regA, regOps, runOps, opStep, wantedA, opA, evo, evos, calleeA, lk, nif_eq, putE, paramsE, valS, val2, keepE, restrict, finA, resA, binA, binInt, ofConst, ofConst1, loadA, TK.isAgg, asVar, unA, builtinA, lenOpA, lenA, ileb_cast, ileb_eq, ieqb_dec, indexAddrA, inB_dec, evPairs, storeA, AV.cellsOf, pairsOf, xI_nil, binBool, gcE, evOpt, tagZ, isI64, pureLd, loadP, boxP, xI_block, xI_loopH, xI_condM, xI_exitM, xI_skip, xI_blk, exitA, ty2, ty3, ty25, ty26, ty31, eK3_0_0, eK3_1_2, eK3_2_4, runTr, pairsOk, pairOk, lstAt, lastOf, sameVal, AV.eqv, eqvs, eqvs_ints, regOps, blt_dec, cond_true, cond_false, fieldAddrA, allOne, AV.one, buildA, sizesOf, fillA, putCells, n_push, indexA, ty2, ty9, ty5, ty3, ty26, convA, ty3, ty25, t1, t2, hlt, hnl, hx, w1, c1, c2, c3, o1]

set_option maxHeartbeats 2000000 in
theorem x3_0 (n sz op : Nat) (hs : sz ≤ 10) (σ : St) : exI TT (FI.of Tryd.f3 (TT.an 3)) K3_0 [(5, .int .i64 n), (6, .int .i64 sz), (7, .sl 0 0 n n), (8, .sl 1 0 n n), (9, .int .i64 op), (10, .int .i64 (2 ^ sz : Nat))] σ = exI TT (FI.of Tryd.f3 (TT.an 3)) K3_1 [(5, .int .i64 n), (6, .int .i64 sz), (7, .sl 0 0 n n), (8, .sl 1 0 n n), (9, .int .i64 op), (18, .int .i64 0)] σ := by
  have hp : 2 ^ sz ≤ 2 ^ 10 := Nat.pow_le_pow_right (by decide) hs
  have t1 := sh_1 (b := sz) (by omega)
  rw [show pw sz = 2 ^ sz from rfl] at t1
  have t2 : wrapA .u64 (sz : Int) = (sz : Int) := n_wrapu (by omega)
  generalize 2 ^ sz = P at *
  rw [fi3]
  conv => lhs; rw [xl3_0]
  simp only [B3_0, b3, Tryd.f3, Option.getD, fstC, sndC, bodyC, thnC, elsC]
  simp [xI_seq, xI_region, xI_ret, regA, regOps, runOps, opStep, wantedA, opA, evo, evos, calleeA, lk, nif_eq, putE, paramsE, valS, val2, keepE, restrict, finA, resA, binA, binInt, ofConst, ofConst1, loadA, TK.isAgg, asVar, unA, builtinA, lenOpA, lenA, ileb_cast, ileb_eq, ieqb_dec, indexAddrA, inB_dec, evPairs, storeA, AV.cellsOf, pairsOf, xI_nil, binBool, gcE, evOpt, tagZ, isI64, pureLd, loadP, boxP, xI_block, xI_loopH, xI_condM, xI_exitM, xI_skip, xI_blk, exitA, ty2, ty3, ty25, ty26, ty31, eK3_0_0, eK3_1_2, eK3_2_4, runTr, pairsOk, pairOk, lstAt, lastOf, sameVal, AV.eqv, eqvs, eqvs_ints, regOps, blt_dec, cond_true, cond_false, fieldAddrA, allOne, AV.one, buildA, sizesOf, fillA, putCells, n_push, indexA, ty2, ty9, ty5, ty3, ty26, convA, ty3, t1, t2]
  simp only [R3_0_0, b3, Tryd.f3, Option.getD, fstC, sndC, bodyC, thnC, elsC]
  simp [xI_seq, xI_region, xI_ret, regA, regOps, runOps, opStep, wantedA, opA, evo, evos, calleeA, lk, nif_eq, putE, paramsE, valS, val2, keepE, restrict, finA, resA, binA, binInt, ofConst, ofConst1, loadA, TK.isAgg, asVar, unA, builtinA, lenOpA, lenA, ileb_cast, ileb_eq, ieqb_dec, indexAddrA, inB_dec, evPairs, storeA, AV.cellsOf, pairsOf, xI_nil, binBool, gcE, evOpt, tagZ, isI64, pureLd, loadP, boxP, xI_block, xI_loopH, xI_condM, xI_exitM, xI_skip, xI_blk, exitA, ty2, ty3, ty25, ty26, ty31, eK3_0_0, eK3_1_2, eK3_2_4, runTr, pairsOk, pairOk, lstAt, lastOf, sameVal, AV.eqv, eqvs, eqvs_ints, regOps, blt_dec, cond_true, cond_false, fieldAddrA, allOne, AV.one, buildA, sizesOf, fillA, putCells, n_push, indexA, ty2, ty9, ty5, ty3, ty26]
  rfl
set_option maxHeartbeats 2000000 in
theorem s3_1 (n sz op i A B : Nat) (σ : St) (hn : n ≤ 32) (hi : i < n) (r1 : cellsAt σ (.ptr 0 i) 1 = some [.int .i64 A]) (r2 : cellsAt σ (.ptr 0 0) 1 = some [.int .i64 A]) (r3 : cellsAt σ (.ptr 1 i) 1 = some [.int .i64 B]) (r4 : cellsAt σ (.ptr 1 0) 1 = some [.int .i64 B]) :
    exI TT (FI.of Tryd.f3 (TT.an 3)) K3_1 [(5, .int .i64 n), (6, .int .i64 sz), (7, .sl 0 0 n n), (8, .sl 1 0 n n), (9, .int .i64 op), (18, .int .i64 i)] σ = exI TT (FI.of Tryd.f3 (TT.an 3)) K3_1 [(5, .int .i64 n), (6, .int .i64 sz), (7, .sl 0 0 n n), (8, .sl 1 0 n n), (9, .int .i64 op), (18, .int .i64 ((i : Int) + 1))] σ := by
  have hlt : (i : Int) < (n : Int) := by omega
  have hnl : ¬ n ≤ i := by omega
  have hn0 : (0 : Int) < (n : Int) := by omega
  have hn1 : 0 < n := by omega
  have hn2 : ¬ n = 0 := by omega
  have w1 : wrapA .i64 ((i : Int) + 1) = (i : Int) + 1 := wrapA_id (by omega) (by omega)
  rw [fi3]
  conv => lhs; rw [xl3_1]
  simp only [B3_1, b3, Tryd.f3, Option.getD, fstC, sndC, bodyC, thnC, elsC]
  simp [xI_seq, xI_region, xI_ret, regA, regOps, runOps, opStep, wantedA, opA, evo, evos, calleeA, lk, nif_eq, putE, paramsE, valS, val2, keepE, restrict, finA, resA, binA, binInt, ofConst, ofConst1, loadA, TK.isAgg, asVar, unA, builtinA, lenOpA, lenA, ileb_cast, ileb_eq, ieqb_dec, indexAddrA, inB_dec, evPairs, storeA, AV.cellsOf, pairsOf, xI_nil, binBool, gcE, evOpt, tagZ, isI64, pureLd, loadP, boxP, xI_block, xI_loopH, xI_condM, xI_exitM, xI_skip, xI_blk, exitA, ty2, ty3, ty25, ty26, ty31, eK3_0_0, eK3_1_2, eK3_2_4, runTr, pairsOk, pairOk, lstAt, lastOf, sameVal, AV.eqv, eqvs, eqvs_ints, regOps, blt_dec, cond_true, cond_false, fieldAddrA, allOne, AV.one, buildA, sizesOf, fillA, putCells, n_push, indexA, ty2, ty9, ty5, ty3, ty26, ty25, hlt, hnl, hn0, hn1, hn2, hi, w1, r1, r2, r3, r4]
theorem l3_1 (n sz op : Nat) (σ : St) (hn : n ≤ 32) (A B : Nat) (r1 : ∀ i, i < n → cellsAt σ (.ptr 0 i) 1 = some [.int .i64 A]) (r2 : ∀ i, i < n → cellsAt σ (.ptr 1 i) 1 = some [.int .i64 B]) : ∀ m i, i + m = n → exI TT (FI.of Tryd.f3 (TT.an 3)) K3_1 [(5, .int .i64 n), (6, .int .i64 sz), (7, .sl 0 0 n n), (8, .sl 1 0 n n), (9, .int .i64 op), (18, .int .i64 i)] σ = exI TT (FI.of Tryd.f3 (TT.an 3)) K3_1 [(5, .int .i64 n), (6, .int .i64 sz), (7, .sl 0 0 n n), (8, .sl 1 0 n n), (9, .int .i64 op), (18, .int .i64 n)] σ := by
  intro m
  induction m with
  | zero => intro i hi; obtain rfl : i = n := by omega
            rfl
  | succ m ih =>
    intro i hi
    rw [s3_1 n sz op i A B σ hn (by omega) (r1 i (by omega)) (r1 0 (by omega)) (r2 i (by omega)) (r2 0 (by omega))]
    have := ih (i + 1) (by omega)
    rwa [show ((i + 1 : Nat) : Int) = (i : Int) + 1 by omega] at this
set_option maxHeartbeats 2000000 in
theorem x3_1 (n sz op : Nat) (h1 : 1 ≤ n) (σ : St) : exI TT (FI.of Tryd.f3 (TT.an 3)) K3_1 [(5, .int .i64 n), (6, .int .i64 sz), (7, .sl 0 0 n n), (8, .sl 1 0 n n), (9, .int .i64 op), (18, .int .i64 n)] σ = exI TT (FI.of Tryd.f3 (TT.an 3)) K3_2 [(5, .int .i64 n), (6, .int .i64 sz), (9, .int .i64 op), (19, .int .i64 (1 % n : Nat)), (20, .int .i64 0)] σ := by
  have hm : (1 : Int).tmod (n : Int) = ((1 % n : Nat) : Int) := rfl
  have hn0 : ¬ (n : Int) = 0 := by omega
  have hn00 : ¬ n = 0 := by omega
  generalize 1 % n = r at *
  rw [fi3]
  conv => lhs; rw [xl3_1]
  simp only [B3_1, b3, Tryd.f3, Option.getD, fstC, sndC, bodyC, thnC, elsC]
  simp [xI_seq, xI_region, xI_ret, regA, regOps, runOps, opStep, wantedA, opA, evo, evos, calleeA, lk, nif_eq, putE, paramsE, valS, val2, keepE, restrict, finA, resA, binA, binInt, ofConst, ofConst1, loadA, TK.isAgg, asVar, unA, builtinA, lenOpA, lenA, ileb_cast, ileb_eq, ieqb_dec, indexAddrA, inB_dec, evPairs, storeA, AV.cellsOf, pairsOf, xI_nil, binBool, gcE, evOpt, tagZ, isI64, pureLd, loadP, boxP, xI_block, xI_loopH, xI_condM, xI_exitM, xI_skip, xI_blk, exitA, ty2, ty3, ty25, ty26, ty31, eK3_0_0, eK3_1_2, eK3_2_4, runTr, pairsOk, pairOk, lstAt, lastOf, sameVal, AV.eqv, eqvs, eqvs_ints, regOps, blt_dec, cond_true, cond_false, fieldAddrA, allOne, AV.one, buildA, sizesOf, fillA, putCells, n_push, indexA, ty2, ty9, ty5, ty3, ty26]
  simp only [R3_1_2, b3, Tryd.f3, Option.getD, fstC, sndC, bodyC, thnC, elsC]
  simp [xI_seq, xI_region, xI_ret, regA, regOps, runOps, opStep, wantedA, opA, evo, evos, calleeA, lk, nif_eq, putE, paramsE, valS, val2, keepE, restrict, finA, resA, binA, binInt, ofConst, ofConst1, loadA, TK.isAgg, asVar, unA, builtinA, lenOpA, lenA, ileb_cast, ileb_eq, ieqb_dec, indexAddrA, inB_dec, evPairs, storeA, AV.cellsOf, pairsOf, xI_nil, binBool, gcE, evOpt, tagZ, isI64, pureLd, loadP, boxP, xI_block, xI_loopH, xI_condM, xI_exitM, xI_skip, xI_blk, exitA, ty2, ty3, ty25, ty26, ty31, eK3_0_0, eK3_1_2, eK3_2_4, runTr, pairsOk, pairOk, lstAt, lastOf, sameVal, AV.eqv, eqvs, eqvs_ints, regOps, blt_dec, cond_true, cond_false, fieldAddrA, allOne, AV.one, buildA, sizesOf, fillA, putCells, n_push, indexA, ty2, ty9, ty5, ty3, ty26, hm, hn0, hn00]
  rfl
set_option maxHeartbeats 2000000 in
theorem s3_2 (n sz op k r r2 : Nat) (σ : St) (hn : n ≤ 32) (h1 : 1 ≤ n) (hs : sz ≤ 10) (hk : k < sz) (hr : r < n) (hm : ((2 * r : Nat) : Int).tmod (n : Int) = (r2 : Int)) : exI TT (FI.of Tryd.f3 (TT.an 3)) K3_2 [(5, .int .i64 n), (6, .int .i64 sz), (9, .int .i64 op), (19, .int .i64 r), (20, .int .i64 k)] σ = exI TT (FI.of Tryd.f3 (TT.an 3)) K3_2 [(5, .int .i64 n), (6, .int .i64 sz), (9, .int .i64 op), (19, .int .i64 r2), (20, .int .i64 ((k : Int) + 1))] σ := by
  have hlt : (k : Int) < (sz : Int) := by omega
  have hnl : ¬ sz ≤ k := by omega
  have hn0 : ¬ (n : Int) = 0 := by omega
  have hn00 : ¬ n = 0 := by omega
  have w1 : wrapA .i64 ((k : Int) + 1) = (k : Int) + 1 := wrapA_id (by omega) (by omega)
  have w2 : wrapA .i64 (2 * (r : Int)) = ((2 * r : Nat) : Int) := by rw [wrapA_id (by omega) (by omega)]; omega
  generalize 2 * r = rr at *
  rw [fi3]
  conv => lhs; rw [xl3_2]
  simp only [B3_2, b3, Tryd.f3, Option.getD, fstC, sndC, bodyC, thnC, elsC]
  simp [xI_seq, xI_region, xI_ret, regA, regOps, runOps, opStep, wantedA, opA, evo, evos, calleeA, lk, nif_eq, putE, paramsE, valS, val2, keepE, restrict, finA, resA, binA, binInt, ofConst, ofConst1, loadA, TK.isAgg, asVar, unA, builtinA, lenOpA, lenA, ileb_cast, ileb_eq, ieqb_dec, indexAddrA, inB_dec, evPairs, storeA, AV.cellsOf, pairsOf, xI_nil, binBool, gcE, evOpt, tagZ, isI64, pureLd, loadP, boxP, xI_block, xI_loopH, xI_condM, xI_exitM, xI_skip, xI_blk, exitA, ty2, ty3, ty25, ty26, ty31, eK3_0_0, eK3_1_2, eK3_2_4, runTr, pairsOk, pairOk, lstAt, lastOf, sameVal, AV.eqv, eqvs, eqvs_ints, regOps, blt_dec, cond_true, cond_false, fieldAddrA, allOne, AV.one, buildA, sizesOf, fillA, putCells, n_push, indexA, ty2, ty9, ty5, ty3, ty26, hlt, hnl, hk, hn0, hn00, w1, w2, hm]
theorem l3_2 (n sz op : Nat) (σ : St) (hn : n ≤ 32) (h1 : 1 ≤ n) (hs : sz ≤ 10) : ∀ m k, k + m = sz → exI TT (FI.of Tryd.f3 (TT.an 3)) K3_2 [(5, .int .i64 n), (6, .int .i64 sz), (9, .int .i64 op), (19, .int .i64 (2 ^ k % n : Nat)), (20, .int .i64 k)] σ = exI TT (FI.of Tryd.f3 (TT.an 3)) K3_2 [(5, .int .i64 n), (6, .int .i64 sz), (9, .int .i64 op), (19, .int .i64 (2 ^ sz % n : Nat)), (20, .int .i64 sz)] σ := by
  intro m
  induction m with
  | zero => intro k hk; obtain rfl : k = sz := by omega
            rfl
  | succ m ih =>
    intro k hk
    rw [s3_2 n sz op k (2 ^ k % n) (2 ^ (k + 1) % n) σ hn h1 hs (by omega) (Nat.mod_lt _ (by omega)) (by rw [← pow2_mod]; rfl)]
    have := ih (k + 1) (by omega)
    rwa [show ((k + 1 : Nat) : Int) = (k : Int) + 1 by omega] at this
set_option maxHeartbeats 2000000 in
theorem x3_2 (n sz op : Nat) (σ σ1 σ2 σ3 σ4 : St) (x1 y1 x2 y2 z : Int) (hz : z ≤ 0) (n0 : σ.n = 2) (c1 : ∀ σ, callI TT 9 [.int .i64 n] σ = some (.tup [.agg [.int .i64 x1, .int .i64 y1], .bool true], σ)) (c2 : ∀ σ, callI TT 10 [.int .i64 n] σ = some (.tup [.agg [.int .i64 x2, .int .i64 y2], .bool true], σ))
    (e1 : σ.push ⟨[.int .i64 0, .int .i64 0], 2, false⟩ = σ1) (s1 : storeCellsA σ1 2 0 [.int .i64 x1, .int .i64 y1] = some σ2) (n2 : σ2.n = 3) (e2 : σ2.push ⟨[.int .i64 0, .int .i64 0], 2, false⟩ = σ3) (s2 : storeCellsA σ3 3 0 [.int .i64 x2, .int .i64 y2] = some σ4)
    (r1 : cellsAt σ4 (.ptr 2 0) 2 = some [.int .i64 x1, .int .i64 y1]) (r2 : cellsAt σ4 (.ptr 3 0) 2 = some [.int .i64 x2, .int .i64 y2]) (c3 : ∀ σ, callI TT 11 [.agg [.int .i64 x2, .int .i64 y2], .agg [.int .i64 x1, .int .i64 y1]] σ = some (.tup [.int .i64 z, .bool true], σ)) :
    exI TT (FI.of Tryd.f3 (TT.an 3)) K3_2 [(5, .int .i64 n), (6, .int .i64 sz), (9, .int .i64 op), (19, .int .i64 op), (20, .int .i64 sz)] σ = some (.bool true, σ4) := by
  rw [fi3]
  rw [xl3_2]
  simp only [B3_2, b3, Tryd.f3, Option.getD, fstC, sndC, bodyC, thnC, elsC]
  simp [xI_seq, xI_region, xI_ret, regA, regOps, runOps, opStep, wantedA, opA, evo, evos, calleeA, lk, nif_eq, putE, paramsE, valS, val2, keepE, restrict, finA, resA, binA, binInt, ofConst, ofConst1, loadA, TK.isAgg, asVar, unA, builtinA, lenOpA, lenA, ileb_cast, ileb_eq, ieqb_dec, indexAddrA, inB_dec, evPairs, storeA, AV.cellsOf, pairsOf, xI_nil, binBool, gcE, evOpt, tagZ, isI64, pureLd, loadP, boxP, xI_block, xI_loopH, xI_condM, xI_exitM, xI_skip, xI_blk, exitA, ty2, ty3, ty25, ty26, ty31, eK3_0_0, eK3_1_2, eK3_2_4, runTr, pairsOk, pairOk, lstAt, lastOf, sameVal, AV.eqv, eqvs, eqvs_ints, regOps, blt_dec, cond_true, cond_false, fieldAddrA, allOne, AV.one, buildA, sizesOf, fillA, putCells, n_push, indexA, ty2, ty9, ty5, ty3, ty26]
  simp only [R3_2_4, b3, Tryd.f3, Option.getD, fstC, sndC, bodyC, thnC, elsC]
  simp [xI_seq, xI_region, xI_ret, regA, regOps, runOps, opStep, wantedA, opA, evo, evos, calleeA, lk, nif_eq, putE, paramsE, valS, val2, keepE, restrict, finA, resA, binA, binInt, ofConst, ofConst1, loadA, TK.isAgg, asVar, unA, builtinA, lenOpA, lenA, ileb_cast, ileb_eq, ieqb_dec, indexAddrA, inB_dec, evPairs, storeA, AV.cellsOf, pairsOf, xI_nil, binBool, gcE, evOpt, tagZ, isI64, pureLd, loadP, boxP, xI_block, xI_loopH, xI_condM, xI_exitM, xI_skip, xI_blk, exitA, ty2, ty3, ty25, ty26, ty31, eK3_0_0, eK3_1_2, eK3_2_4, runTr, pairsOk, pairOk, lstAt, lastOf, sameVal, AV.eqv, eqvs, eqvs_ints, regOps, blt_dec, cond_true, cond_false, fieldAddrA, allOne, AV.one, buildA, sizesOf, fillA, putCells, n_push, indexA, ty2, ty9, ty5, ty3, ty26, ty31, n0, c1, c2, c3, e1, s1, n2, e2, s2, r1, r2, hz]

theorem l3 {n sz : Nat} (h1 : 1 ≤ n) (hn : n ≤ 32) (hs : sz ≤ 10) : ∀ (m x : Nat) (σ : St), x + m = 2 ^ sz → Row σ 0 (nints (cL (fun y => rejF n (bsOf sz y)) n x)) → Row σ 1 (nints (cL (fun y => diceF n (bsOf sz y)) n x)) → σ.n = 2 →
    ∃ σ', exI TT (FI.of Tryd.f3 (TT.an 3)) K3_0 [(5, .int .i64 n), (6, .int .i64 sz), (7, .sl 0 0 n n), (8, .sl 1 0 n n), (9, .int .i64 (sm (fun y => opn (diceF n (bsOf sz y))) x : Nat)), (10, .int .i64 x)] σ = exI TT (FI.of Tryd.f3 (TT.an 3)) K3_0 [(5, .int .i64 n), (6, .int .i64 sz), (7, .sl 0 0 n n), (8, .sl 1 0 n n), (9, .int .i64 (sm (fun y => opn (diceF n (bsOf sz y))) (2 ^ sz) : Nat)), (10, .int .i64 (2 ^ sz : Nat))] σ' ∧ Row σ' 0 (nints (cL (fun y => rejF n (bsOf sz y)) n (2 ^ sz))) ∧ Row σ' 1 (nints (cL (fun y => diceF n (bsOf sz y)) n (2 ^ sz))) ∧ σ'.n = 2 := by
  have hp : 2 ^ sz ≤ 2 ^ 10 := Nat.pow_le_pow_right (by decide) hs
  intro m
  induction m with
  | zero =>
    intro x σ hx hr1 hr2 h0
    obtain rfl : x = 2 ^ sz := by omega
    exact ⟨σ, rfl, hr1, hr2, h0⟩
  | succ m ih =>
    intro x σ hx hr1 hr2 h0
    have hxs : x < 2 ^ sz := by omega
    have hbl : (bsOf sz x).length = sz := bsOf_length sz x
    have c1 := v6 (n := sz) (v := x) (by omega) (by omega) σ [.int .i64 x, .int .i64 sz] rfl
    have c2 := v7 h1 hn (bsOf sz x) (by omega) (bsOf_bits _ _) σ [.int .i64 n, .str (bsOf sz x)] rfl
    have c3 := v8 h1 (show n ≤ 1000000 by omega) (bsOf sz x) (by omega) (bsOf_bits _ _) σ [.int .i64 n, .str (bsOf sz x)] rfl
    have hop := opn_le (fun y => diceF n (bsOf sz y)) x
    have hx1 : ((x + 1 : Nat) : Int) = (x : Int) + 1 := by omega
    -- the rows behind this string
    have key1 : (∃ a b y1 σ1, rejF n (bsOf sz x) = some (a, b) ∧ a < n ∧ b ≤ sz ∧ y1 ≤ 2000 ∧ cellsAt σ (.ptr 0 a) 1 = some [.int .i64 (y1 : Nat)] ∧ storeCellsA σ 0 a [.int .i64 (y1 + 1 : Nat)] = some σ1 ∧ Row σ1 0 (nints (cL (fun y => rejF n (bsOf sz y)) n (x + 1))) ∧ σ1.n = σ.n ∧ ∀ c, c ≠ 0 → σ1.get c = σ.get c) ∨ (rejF n (bsOf sz x) = none ∧ Row σ 0 (nints (cL (fun y => rejF n (bsOf sz y)) n (x + 1)))) := by
      cases hj : rejF n (bsOf sz x) with
      | none => right; exact ⟨rfl, by rw [cL_none (g := fun y => rejF n (bsOf sz y)) hj]; exact hr1⟩
      | some q =>
        left
        obtain ⟨a, b⟩ := q
        obtain ⟨ha, hb⟩ := rej_range _ _ _ a b hj
        rw [hbl] at hb
        have hc := cnt_le a (fun y => rejF n (bsOf sz y)) x
        have hg := cL_get (g := fun y => rejF n (bsOf sz y)) (x := x) ha
        have hst := cL_set (g := fun y => rejF n (bsOf sz y)) (n := n) hj ha
        obtain ⟨y1, hy⟩ : ∃ y1, sm (fun y => cnt a (rejF n (bsOf sz y))) x = y1 := ⟨_, rfl⟩
        simp only [hy] at hc hg hst
        obtain ⟨σ1, k1, k2, k3, k4⟩ := store_row hr1 (i := a) (x := ((y1 + 1 : Nat) : Int)) (by rw [nints_length, cL_len]; exact ha)
        rw [nints_set, hst] at k2
        exact ⟨a, b, y1, σ1, rfl, ha, by omega, by omega, hr1.read (nints_at hg), k1, k2, k3, k4⟩
    have key2 : ∀ τ : St, Row τ 1 (nints (cL (fun y => diceF n (bsOf sz y)) n x)) → (∃ c d y2 τ1, diceF n (bsOf sz x) = some (c, d) ∧ c < n ∧ d ≤ sz ∧ y2 ≤ 2000 ∧ cellsAt τ (.ptr 1 c) 1 = some [.int .i64 (y2 : Nat)] ∧ storeCellsA τ 1 c [.int .i64 (y2 + 1 : Nat)] = some τ1 ∧ Row τ1 1 (nints (cL (fun y => diceF n (bsOf sz y)) n (x + 1))) ∧ τ1.n = τ.n ∧ ∀ e, e ≠ 1 → τ1.get e = τ.get e) ∨ (diceF n (bsOf sz x) = none ∧ Row τ 1 (nints (cL (fun y => diceF n (bsOf sz y)) n (x + 1)))) := by
      intro τ hr2
      cases hj : diceF n (bsOf sz x) with
      | none => right; exact ⟨rfl, by rw [cL_none (g := fun y => diceF n (bsOf sz y)) hj]; exact hr2⟩
      | some q =>
        left
        obtain ⟨a, b⟩ := q
        obtain ⟨ha, hb⟩ := dice_range _ _ _ _ a b hj
        rw [hbl] at hb
        have hc := cnt_le a (fun y => diceF n (bsOf sz y)) x
        have hg := cL_get (g := fun y => diceF n (bsOf sz y)) (x := x) ha
        have hst := cL_set (g := fun y => diceF n (bsOf sz y)) (n := n) hj ha
        obtain ⟨y1, hy⟩ : ∃ y1, sm (fun y => cnt a (diceF n (bsOf sz y))) x = y1 := ⟨_, rfl⟩
        simp only [hy] at hc hg hst
        obtain ⟨σ1, k1, k2, k3, k4⟩ := store_row hr2 (i := a) (x := ((y1 + 1 : Nat) : Int)) (by rw [nints_length, cL_len]; exact ha)
        rw [nints_set, hst] at k2
        exact ⟨a, b, y1, σ1, rfl, ha, by omega, by omega, hr2.read (nints_at hg), k1, k2, k3, k4⟩
    have hop1 : sm (fun y => opn (diceF n (bsOf sz y))) (x + 1) = sm (fun y => opn (diceF n (bsOf sz y))) x + opn (diceF n (bsOf sz x)) := rfl
    rcases key1 with ⟨a, b, y1, σ1, g0, g1, g2, g3, g4, g5, g6, g7, g8⟩ | ⟨g0, g6⟩
    · have hr2' := hr2.keep (Nat.le_of_eq g7.symm) (g8 1 (by decide))
      rw [g0, rollV] at c2
      rcases key2 σ1 hr2' with ⟨c, d, y2, σ2, f0, f1, f2, f3, f4, f5, f6, f7, f8⟩ | ⟨f0, f6⟩
      · rw [f0, rollV] at c3
        rw [f0, opn, Nat.add_zero] at hop1
        obtain ⟨σ', q1, q2⟩ := ih (x + 1) σ2 (by omega) (g6.keep (Nat.le_of_eq f7.symm) (f8 0 (by decide))) f6 (by omega)
        refine ⟨σ', ?_, q2⟩
        rw [← q1, hop1, hx1]
        exact s3yy n sz x _ (bsOf sz x) σ a b y1 σ1 c d y2 σ2 hs hn hxs (by omega) c1 c2 c3 g1 g2 g3 g4 g5 f1 f2 f3 f4 f5
      · rw [f0, rollV] at c3
        rw [f0, opn] at hop1
        obtain ⟨σ', q1, q2⟩ := ih (x + 1) σ1 (by omega) g6 f6 (by omega)
        refine ⟨σ', ?_, q2⟩
        rw [← q1, hop1, hx1]
        exact s3yn n sz x _ (bsOf sz x) σ a b y1 σ1 hs hn hxs (by omega) c1 c2 c3 g1 g2 g3 g4 g5
    · rw [g0, rollV] at c2
      rcases key2 σ hr2 with ⟨c, d, y2, σ2, f0, f1, f2, f3, f4, f5, f6, f7, f8⟩ | ⟨f0, f6⟩
      · rw [f0, rollV] at c3
        rw [f0, opn, Nat.add_zero] at hop1
        obtain ⟨σ', q1, q2⟩ := ih (x + 1) σ2 (by omega) (g6.keep (Nat.le_of_eq f7.symm) (f8 0 (by decide))) f6 (by omega)
        refine ⟨σ', ?_, q2⟩
        rw [← q1, hop1, hx1]
        exact s3ny n sz x _ (bsOf sz x) σ c d y2 σ2 hs hn hxs (by omega) c1 c2 c3 f1 f2 f3 f4 f5
      · rw [f0, rollV] at c3
        rw [f0, opn] at hop1
        obtain ⟨σ', q1, q2⟩ := ih (x + 1) σ (by omega) g6 f6 h0
        refine ⟨σ', ?_, q2⟩
        rw [← q1, hop1, hx1]
        exact s3nn n sz x _ (bsOf sz x) σ hs hn hxs (by omega) c1 c2 c3
set_option maxHeartbeats 2000000 in
theorem p3 (n r sz : Nat) (cA mA : AV) (hr : 1 + r = n) (hn : n ≤ 32) (σ1 σ2 : St) (cl : callI TT 4 [cA, mA] ⟨[], 0⟩ = some (.bool false, ⟨[], 0⟩)) (c1 : callI TT 5 [cA, .int .i64 0, .int .i64 32] ⟨[], 0⟩ = some (.int .i64 r, ⟨[], 0⟩)) (c2 : callI TT 5 [mA, .int .i64 0, .int .i64 11] ⟨[], 0⟩ = some (.int .i64 sz, ⟨[], 0⟩))
    (m1 : makeSliceA TT ⟨[], 0⟩ 25 (.int .i64 n) (.int .i64 n) = some (.sl 0 0 n n, σ1)) (m2 : makeSliceA TT σ1 25 (.int .i64 n) (.int .i64 n) = some (.sl 1 0 n n, σ2)) (hz : wrapA .i64 (sz : Int) = (sz : Int)) :
    exI TT (FI.of Tryd.f3 (TT.an 3)) [.code b3] (paramsE 0 [cA, mA]) ⟨[], 0⟩ = exI TT (FI.of Tryd.f3 (TT.an 3)) K3_0 [(5, .int .i64 n), (6, .int .i64 sz), (7, .sl 0 0 n n), (8, .sl 1 0 n n), (9, .int .i64 0), (10, .int .i64 0)] σ2 := by
  have w1 : wrapA .i64 (1 + (r : Int)) = (n : Int) := by rw [wrapA_id (by omega) (by omega)]; omega
  rw [fi3]
  simp only [b3, Tryd.f3, Option.getD, fstC, sndC, bodyC, thnC, elsC]
  simp [xI_seq, xI_region, xI_ret, regA, regOps, runOps, opStep, wantedA, opA, evo, evos, calleeA, lk, nif_eq, putE, paramsE, valS, val2, keepE, restrict, finA, resA, binA, binInt, ofConst, ofConst1, loadA, TK.isAgg, asVar, unA, builtinA, lenOpA, lenA, ileb_cast, ileb_eq, ieqb_dec, indexAddrA, inB_dec, evPairs, storeA, AV.cellsOf, pairsOf, xI_nil, binBool, gcE, evOpt, tagZ, isI64, pureLd, loadP, boxP, xI_block, xI_loopH, xI_condM, xI_exitM, xI_skip, xI_blk, exitA, ty2, ty3, ty25, ty26, ty31, eK3_0_0, eK3_1_2, eK3_2_4, runTr, pairsOk, pairOk, lstAt, lastOf, sameVal, AV.eqv, eqvs, eqvs_ints, regOps, blt_dec, cond_true, cond_false, fieldAddrA, allOne, AV.one, buildA, sizesOf, fillA, putCells, n_push, indexA, ty2, ty9, ty5, ty3, ty26, convA, ty3, ty2, cl, c1, c2, m1, m2, w1, hz]
  rfl
theorem w3 (code : List Nat) (hb : ∀ x ∈ code, x < 256) (mo : List Nat) (hm : ∀ x ∈ mo, x < 256) : FnV TT 3 [.lst code.length (byts code), .lst mo.length (byts mo)] (.bool true) := by
  have cl := v4 code mo ⟨[], 0⟩ [.lst code.length (byts code), .lst mo.length (byts mo)] rfl
  by_cases hlong : 48 < code.length ∨ 48 < mo.length
  · have e : (decide (48 < code.length) || decide (48 < mo.length)) = true := by simpa using hlong
    rw [e] at cl
    refine FnV.mk fn3 rfl md3 ⟨⟨[], 0⟩, ?_⟩ (fun _ => rfl) rfl
    rw [fi3]
    simp [xI_seq, xI_region, xI_ret, regA, regOps, runOps, opStep, wantedA, opA, evo, evos, calleeA, lk, nif_eq, putE, paramsE, valS, val2, keepE, restrict, finA, resA, binA, binInt, ofConst, ofConst1, loadA, TK.isAgg, asVar, unA, builtinA, lenOpA, lenA, ileb_cast, ileb_eq, ieqb_dec, indexAddrA, inB_dec, evPairs, storeA, AV.cellsOf, pairsOf, xI_nil, binBool, gcE, evOpt, tagZ, isI64, pureLd, loadP, boxP, xI_block, xI_loopH, xI_condM, xI_exitM, xI_skip, xI_blk, exitA, ty2, ty3, ty25, ty26, ty31, eK3_0_0, eK3_1_2, eK3_2_4, runTr, pairsOk, pairOk, lstAt, lastOf, sameVal, AV.eqv, eqvs, eqvs_ints, regOps, blt_dec, cond_true, cond_false, fieldAddrA, allOne, AV.one, buildA, sizesOf, fillA, putCells, n_push, indexA, ty2, ty9, ty5, ty3, ty26, cl]
  · have e : (decide (48 < code.length) || decide (48 < mo.length)) = false := by simp; omega
    rw [e] at cl
    obtain ⟨r, hr, v1⟩ := v5 code hb (by omega) 0 (by decide) 32 (by decide)
    obtain ⟨sz, hsz, v2⟩ := v5 mo hm (by omega) 0 (by decide) 11 (by decide)
    replace hr : r < 32 := by omega
    replace hsz : sz ≤ 10 := by omega
    obtain ⟨n, hn⟩ : ∃ n, 1 + r = n := ⟨_, rfl⟩
    have hn1 : 1 ≤ n := by omega
    have hn2 : n ≤ 32 := by omega
    have c1 := v1 ⟨[], 0⟩ [.lst code.length (byts code), .int .i64 0, .int .i64 32] rfl
    have c2 := v2 ⟨[], 0⟩ [.lst mo.length (byts mo), .int .i64 0, .int .i64 11] rfl
    have m1 := mkI ⟨[], 0⟩ n (by omega)
    obtain ⟨σ1, e1⟩ : ∃ σ1, (⟨[], 0⟩ : St).push ⟨ints (List.replicate n 0), 1, false⟩ = σ1 := ⟨_, rfl⟩
    have n1 : σ1.n = 1 := by subst e1; rfl
    have m2 := mkI σ1 n (by omega)
    obtain ⟨σ2, e2⟩ : ∃ σ2, σ1.push ⟨ints (List.replicate n 0), 1, false⟩ = σ2 := ⟨_, rfl⟩
    have n2 : σ2.n = 2 := by subst e2; show σ1.n + 1 = 2; omega
    rw [e1] at m1
    rw [e2, n1] at m2
    have R1 : Row σ2 1 (nints (cL (fun y => diceF n (bsOf sz y)) n 0)) := by
      rw [cL_zero, show nints (List.replicate n 0) = List.replicate n 0 by simp [nints]]
      have := Row.push (σ := σ1) (l := List.replicate n 0) (o := false)
      rwa [e2, n1] at this
    have R0 : Row σ2 0 (nints (cL (fun y => rejF n (bsOf sz y)) n 0)) := by
      rw [cL_zero, show nints (List.replicate n 0) = List.replicate n 0 by simp [nints]]
      have h := Row.push (σ := ⟨[], 0⟩) (l := List.replicate n 0) (o := false)
      rw [e1] at h
      have h2 := h.pushed (x := ⟨ints (List.replicate n 0), 1, false⟩)
      rwa [e2] at h2
    have hb0 := p3 n r sz (.lst code.length (byts code)) (.lst mo.length (byts mo)) hn hn2 σ1 σ2 cl c1 c2 m1 m2 (n_wrap (by omega))
    obtain ⟨σ3, k1, k2, k3, k4⟩ := l3 hn1 hn2 hsz (2 ^ sz) 0 σ2 (by omega) R0 R1 n2
    rw [show sm (fun y => opn (diceF n (bsOf sz y))) 0 = 0 from rfl, show ((0 : Nat) : Int) = 0 from rfl] at k1
    have hrest := dice_rest hn1 sz
    rw [hrest] at k1
    have q1 := l3_1 n sz (2 ^ sz % n) σ3 hn2 _ _ (fun i hi => k2.read (nints_at (by rw [cL_get hi, rej_even hi (show 0 < n by omega)]))) (fun i hi => k3.read (nints_at (by rw [cL_get hi, dice_even hi]))) n 0 (by omega)
    rw [show ((0 : Nat) : Int) = 0 from rfl] at q1
    have q2 := l3_2 n sz (2 ^ sz % n) σ3 hn2 hn1 hsz sz 0 (by omega)
    rw [show ((0 : Nat) : Int) = 0 from rfl, show (2 ^ 0 % n : Nat) = 1 % n from rfl] at q2
    obtain ⟨f1, f2, f3⟩ := cost_le hn1 hn2
    have d1 : ∀ σ, callI TT 9 [.int .i64 n] σ = some (.tup [.agg [.int .i64 (rejQ n).num, .int .i64 (rejQ n).den], .bool true], σ) := fun σ => by
      have := v9 hn1 hn2 σ [.int .i64 n] rfl
      rwa [frA, if_pos f2] at this
    have d2 : ∀ σ, callI TT 10 [.int .i64 n] σ = some (.tup [.agg [.int .i64 (diceQ n).num, .int .i64 (diceQ n).den], .bool true], σ) := fun σ => by
      have := v10 hn1 hn2 σ [.int .i64 n] rfl
      rwa [frA, if_pos f1] at this
    have d3 : ∀ σ, callI TT 11 [.agg [.int .i64 (diceQ n).num, .int .i64 (diceQ n).den], .agg [.int .i64 (rejQ n).num, .int .i64 (rejQ n).den]] σ = some (.tup [.int .i64 (cmpR (diceQ n) (rejQ n)), .bool true], σ) := fun σ => by
      have := v11 (vfr_of f1) (vfr_of f2) σ [.agg [.int .i64 (diceQ n).num, .int .i64 (diceQ n).den], .agg [.int .i64 (rejQ n).num, .int .i64 (rejQ n).den]] rfl
      rwa [Int.toNat_natCast, Int.toNat_natCast, Rat.mkRat_self, Rat.mkRat_self] at this
    obtain ⟨σ4, e4⟩ : ∃ σ4, σ3.push ⟨[.int .i64 0, .int .i64 0], 2, false⟩ = σ4 := ⟨_, rfl⟩
    have Q4 : RGB σ4 2 0 0 := by
      have := get_push_same (σ := σ3) (x := ⟨[.int .i64 0, .int .i64 0], 2, false⟩)
      rw [k4, e4] at this; exact this
    have n4 : σ4.n = 3 := by subst e4; show σ3.n + 1 = 3; omega
    obtain ⟨σ5, s5, Q5, n5, u5⟩ := Q4.s2 (rejQ n).num (rejQ n).den
    obtain ⟨σ6, e6⟩ : ∃ σ6, σ5.push ⟨[.int .i64 0, .int .i64 0], 2, false⟩ = σ6 := ⟨_, rfl⟩
    have n5' : σ5.n = 3 := by omega
    have Q6 : RGB σ6 3 0 0 := by
      have := get_push_same (σ := σ5) (x := ⟨[.int .i64 0, .int .i64 0], 2, false⟩)
      rw [n5', e6] at this; exact this
    have Q62 : RGB σ6 2 (rejQ n).num (rejQ n).den := Q5.keep (by subst e6; exact get_push_lt (by omega))
    obtain ⟨σ7, s7, Q7, n7, u7⟩ := Q6.s2 (diceQ n).num (diceQ n).den
    have Q72 : RGB σ7 2 (rejQ n).num (rejQ n).den := Q62.keep (u7 2 (by decide))
    have hfin := x3_2 n sz (2 ^ sz % n) σ3 σ4 σ5 σ6 σ7 _ _ _ _ _ f3 k4 d1 d2 e4 s5 n5' e6 s7 Q72.cc Q7.cc d3
    refine FnV.mk (c := b3) fn3 rfl md3 ⟨σ7, ?_⟩ (fun _ => rfl) rfl
    rw [hb0, k1, x3_0 n sz _ hsz, q1, x3_1 n sz _ hn1, q2]
    exact hfin

end Go.Proofs.YtjecbjnckbihoaaDoor
