/- Contracts: parities, what rows make of a source. Nothing is claimed here; no condition. -/
import Derived.Test.YtkglajdhlmmlfaaGreatZc
namespace Go.Proofs.YtkglajdhlmmlfaaGreat
open Go Go.Abs Go.Nm
set_option linter.unusedSimpArgs false
set_option linter.unusedVariables false
theorem x40_0_0 : FnV TT 40 [.int .i64 0, .int .i64 0] (.int .i64 (parT (0 &&& 0) : Nat)) := FnV.mk fn40 rfl md40 (exI_of_exec (n := 1000) (by kernel_rfl)) (fun _ => rfl) rfl
theorem x40_0_1 : FnV TT 40 [.int .i64 0, .int .i64 1] (.int .i64 (parT (1 &&& 0) : Nat)) := FnV.mk fn40 rfl md40 (exI_of_exec (n := 1000) (by kernel_rfl)) (fun _ => rfl) rfl
theorem x40_0_2 : FnV TT 40 [.int .i64 0, .int .i64 2] (.int .i64 (parT (2 &&& 0) : Nat)) := FnV.mk fn40 rfl md40 (exI_of_exec (n := 1000) (by kernel_rfl)) (fun _ => rfl) rfl
theorem x40_0_3 : FnV TT 40 [.int .i64 0, .int .i64 3] (.int .i64 (parT (3 &&& 0) : Nat)) := FnV.mk fn40 rfl md40 (exI_of_exec (n := 1000) (by kernel_rfl)) (fun _ => rfl) rfl
theorem x40_0_4 : FnV TT 40 [.int .i64 0, .int .i64 4] (.int .i64 (parT (4 &&& 0) : Nat)) := FnV.mk fn40 rfl md40 (exI_of_exec (n := 1000) (by kernel_rfl)) (fun _ => rfl) rfl
theorem x40_0_5 : FnV TT 40 [.int .i64 0, .int .i64 5] (.int .i64 (parT (5 &&& 0) : Nat)) := FnV.mk fn40 rfl md40 (exI_of_exec (n := 1000) (by kernel_rfl)) (fun _ => rfl) rfl
theorem x40_0_6 : FnV TT 40 [.int .i64 0, .int .i64 6] (.int .i64 (parT (6 &&& 0) : Nat)) := FnV.mk fn40 rfl md40 (exI_of_exec (n := 1000) (by kernel_rfl)) (fun _ => rfl) rfl
theorem x40_0_7 : FnV TT 40 [.int .i64 0, .int .i64 7] (.int .i64 (parT (7 &&& 0) : Nat)) := FnV.mk fn40 rfl md40 (exI_of_exec (n := 1000) (by kernel_rfl)) (fun _ => rfl) rfl
theorem x40_1_0 : FnV TT 40 [.int .i64 1, .int .i64 0] (.int .i64 (parT (0 &&& 1) : Nat)) := FnV.mk fn40 rfl md40 (exI_of_exec (n := 1000) (by kernel_rfl)) (fun _ => rfl) rfl
theorem x40_1_1 : FnV TT 40 [.int .i64 1, .int .i64 1] (.int .i64 (parT (1 &&& 1) : Nat)) := FnV.mk fn40 rfl md40 (exI_of_exec (n := 1000) (by kernel_rfl)) (fun _ => rfl) rfl
theorem x40_1_2 : FnV TT 40 [.int .i64 1, .int .i64 2] (.int .i64 (parT (2 &&& 1) : Nat)) := FnV.mk fn40 rfl md40 (exI_of_exec (n := 1000) (by kernel_rfl)) (fun _ => rfl) rfl
theorem x40_1_3 : FnV TT 40 [.int .i64 1, .int .i64 3] (.int .i64 (parT (3 &&& 1) : Nat)) := FnV.mk fn40 rfl md40 (exI_of_exec (n := 1000) (by kernel_rfl)) (fun _ => rfl) rfl
theorem x40_1_4 : FnV TT 40 [.int .i64 1, .int .i64 4] (.int .i64 (parT (4 &&& 1) : Nat)) := FnV.mk fn40 rfl md40 (exI_of_exec (n := 1000) (by kernel_rfl)) (fun _ => rfl) rfl
theorem x40_1_5 : FnV TT 40 [.int .i64 1, .int .i64 5] (.int .i64 (parT (5 &&& 1) : Nat)) := FnV.mk fn40 rfl md40 (exI_of_exec (n := 1000) (by kernel_rfl)) (fun _ => rfl) rfl
theorem x40_1_6 : FnV TT 40 [.int .i64 1, .int .i64 6] (.int .i64 (parT (6 &&& 1) : Nat)) := FnV.mk fn40 rfl md40 (exI_of_exec (n := 1000) (by kernel_rfl)) (fun _ => rfl) rfl
theorem x40_1_7 : FnV TT 40 [.int .i64 1, .int .i64 7] (.int .i64 (parT (7 &&& 1) : Nat)) := FnV.mk fn40 rfl md40 (exI_of_exec (n := 1000) (by kernel_rfl)) (fun _ => rfl) rfl
theorem x40_2_0 : FnV TT 40 [.int .i64 2, .int .i64 0] (.int .i64 (parT (0 &&& 2) : Nat)) := FnV.mk fn40 rfl md40 (exI_of_exec (n := 1000) (by kernel_rfl)) (fun _ => rfl) rfl
theorem x40_2_1 : FnV TT 40 [.int .i64 2, .int .i64 1] (.int .i64 (parT (1 &&& 2) : Nat)) := FnV.mk fn40 rfl md40 (exI_of_exec (n := 1000) (by kernel_rfl)) (fun _ => rfl) rfl
theorem x40_2_2 : FnV TT 40 [.int .i64 2, .int .i64 2] (.int .i64 (parT (2 &&& 2) : Nat)) := FnV.mk fn40 rfl md40 (exI_of_exec (n := 1000) (by kernel_rfl)) (fun _ => rfl) rfl
theorem x40_2_3 : FnV TT 40 [.int .i64 2, .int .i64 3] (.int .i64 (parT (3 &&& 2) : Nat)) := FnV.mk fn40 rfl md40 (exI_of_exec (n := 1000) (by kernel_rfl)) (fun _ => rfl) rfl
theorem x40_2_4 : FnV TT 40 [.int .i64 2, .int .i64 4] (.int .i64 (parT (4 &&& 2) : Nat)) := FnV.mk fn40 rfl md40 (exI_of_exec (n := 1000) (by kernel_rfl)) (fun _ => rfl) rfl
theorem x40_2_5 : FnV TT 40 [.int .i64 2, .int .i64 5] (.int .i64 (parT (5 &&& 2) : Nat)) := FnV.mk fn40 rfl md40 (exI_of_exec (n := 1000) (by kernel_rfl)) (fun _ => rfl) rfl
theorem x40_2_6 : FnV TT 40 [.int .i64 2, .int .i64 6] (.int .i64 (parT (6 &&& 2) : Nat)) := FnV.mk fn40 rfl md40 (exI_of_exec (n := 1000) (by kernel_rfl)) (fun _ => rfl) rfl
theorem x40_2_7 : FnV TT 40 [.int .i64 2, .int .i64 7] (.int .i64 (parT (7 &&& 2) : Nat)) := FnV.mk fn40 rfl md40 (exI_of_exec (n := 1000) (by kernel_rfl)) (fun _ => rfl) rfl
theorem x40_3_0 : FnV TT 40 [.int .i64 3, .int .i64 0] (.int .i64 (parT (0 &&& 3) : Nat)) := FnV.mk fn40 rfl md40 (exI_of_exec (n := 1000) (by kernel_rfl)) (fun _ => rfl) rfl
theorem x40_3_1 : FnV TT 40 [.int .i64 3, .int .i64 1] (.int .i64 (parT (1 &&& 3) : Nat)) := FnV.mk fn40 rfl md40 (exI_of_exec (n := 1000) (by kernel_rfl)) (fun _ => rfl) rfl
theorem x40_3_2 : FnV TT 40 [.int .i64 3, .int .i64 2] (.int .i64 (parT (2 &&& 3) : Nat)) := FnV.mk fn40 rfl md40 (exI_of_exec (n := 1000) (by kernel_rfl)) (fun _ => rfl) rfl
theorem x40_3_3 : FnV TT 40 [.int .i64 3, .int .i64 3] (.int .i64 (parT (3 &&& 3) : Nat)) := FnV.mk fn40 rfl md40 (exI_of_exec (n := 1000) (by kernel_rfl)) (fun _ => rfl) rfl
theorem x40_3_4 : FnV TT 40 [.int .i64 3, .int .i64 4] (.int .i64 (parT (4 &&& 3) : Nat)) := FnV.mk fn40 rfl md40 (exI_of_exec (n := 1000) (by kernel_rfl)) (fun _ => rfl) rfl
theorem x40_3_5 : FnV TT 40 [.int .i64 3, .int .i64 5] (.int .i64 (parT (5 &&& 3) : Nat)) := FnV.mk fn40 rfl md40 (exI_of_exec (n := 1000) (by kernel_rfl)) (fun _ => rfl) rfl
theorem x40_3_6 : FnV TT 40 [.int .i64 3, .int .i64 6] (.int .i64 (parT (6 &&& 3) : Nat)) := FnV.mk fn40 rfl md40 (exI_of_exec (n := 1000) (by kernel_rfl)) (fun _ => rfl) rfl
theorem x40_3_7 : FnV TT 40 [.int .i64 3, .int .i64 7] (.int .i64 (parT (7 &&& 3) : Nat)) := FnV.mk fn40 rfl md40 (exI_of_exec (n := 1000) (by kernel_rfl)) (fun _ => rfl) rfl
theorem x40_4_0 : FnV TT 40 [.int .i64 4, .int .i64 0] (.int .i64 (parT (0 &&& 4) : Nat)) := FnV.mk fn40 rfl md40 (exI_of_exec (n := 1000) (by kernel_rfl)) (fun _ => rfl) rfl
theorem x40_4_1 : FnV TT 40 [.int .i64 4, .int .i64 1] (.int .i64 (parT (1 &&& 4) : Nat)) := FnV.mk fn40 rfl md40 (exI_of_exec (n := 1000) (by kernel_rfl)) (fun _ => rfl) rfl
theorem x40_4_2 : FnV TT 40 [.int .i64 4, .int .i64 2] (.int .i64 (parT (2 &&& 4) : Nat)) := FnV.mk fn40 rfl md40 (exI_of_exec (n := 1000) (by kernel_rfl)) (fun _ => rfl) rfl
theorem x40_4_3 : FnV TT 40 [.int .i64 4, .int .i64 3] (.int .i64 (parT (3 &&& 4) : Nat)) := FnV.mk fn40 rfl md40 (exI_of_exec (n := 1000) (by kernel_rfl)) (fun _ => rfl) rfl
theorem x40_4_4 : FnV TT 40 [.int .i64 4, .int .i64 4] (.int .i64 (parT (4 &&& 4) : Nat)) := FnV.mk fn40 rfl md40 (exI_of_exec (n := 1000) (by kernel_rfl)) (fun _ => rfl) rfl
theorem x40_4_5 : FnV TT 40 [.int .i64 4, .int .i64 5] (.int .i64 (parT (5 &&& 4) : Nat)) := FnV.mk fn40 rfl md40 (exI_of_exec (n := 1000) (by kernel_rfl)) (fun _ => rfl) rfl
theorem x40_4_6 : FnV TT 40 [.int .i64 4, .int .i64 6] (.int .i64 (parT (6 &&& 4) : Nat)) := FnV.mk fn40 rfl md40 (exI_of_exec (n := 1000) (by kernel_rfl)) (fun _ => rfl) rfl
theorem x40_4_7 : FnV TT 40 [.int .i64 4, .int .i64 7] (.int .i64 (parT (7 &&& 4) : Nat)) := FnV.mk fn40 rfl md40 (exI_of_exec (n := 1000) (by kernel_rfl)) (fun _ => rfl) rfl
theorem x40_5_0 : FnV TT 40 [.int .i64 5, .int .i64 0] (.int .i64 (parT (0 &&& 5) : Nat)) := FnV.mk fn40 rfl md40 (exI_of_exec (n := 1000) (by kernel_rfl)) (fun _ => rfl) rfl
theorem x40_5_1 : FnV TT 40 [.int .i64 5, .int .i64 1] (.int .i64 (parT (1 &&& 5) : Nat)) := FnV.mk fn40 rfl md40 (exI_of_exec (n := 1000) (by kernel_rfl)) (fun _ => rfl) rfl
theorem x40_5_2 : FnV TT 40 [.int .i64 5, .int .i64 2] (.int .i64 (parT (2 &&& 5) : Nat)) := FnV.mk fn40 rfl md40 (exI_of_exec (n := 1000) (by kernel_rfl)) (fun _ => rfl) rfl
theorem x40_5_3 : FnV TT 40 [.int .i64 5, .int .i64 3] (.int .i64 (parT (3 &&& 5) : Nat)) := FnV.mk fn40 rfl md40 (exI_of_exec (n := 1000) (by kernel_rfl)) (fun _ => rfl) rfl
theorem x40_5_4 : FnV TT 40 [.int .i64 5, .int .i64 4] (.int .i64 (parT (4 &&& 5) : Nat)) := FnV.mk fn40 rfl md40 (exI_of_exec (n := 1000) (by kernel_rfl)) (fun _ => rfl) rfl
theorem x40_5_5 : FnV TT 40 [.int .i64 5, .int .i64 5] (.int .i64 (parT (5 &&& 5) : Nat)) := FnV.mk fn40 rfl md40 (exI_of_exec (n := 1000) (by kernel_rfl)) (fun _ => rfl) rfl
theorem x40_5_6 : FnV TT 40 [.int .i64 5, .int .i64 6] (.int .i64 (parT (6 &&& 5) : Nat)) := FnV.mk fn40 rfl md40 (exI_of_exec (n := 1000) (by kernel_rfl)) (fun _ => rfl) rfl
theorem x40_5_7 : FnV TT 40 [.int .i64 5, .int .i64 7] (.int .i64 (parT (7 &&& 5) : Nat)) := FnV.mk fn40 rfl md40 (exI_of_exec (n := 1000) (by kernel_rfl)) (fun _ => rfl) rfl
theorem x40_6_0 : FnV TT 40 [.int .i64 6, .int .i64 0] (.int .i64 (parT (0 &&& 6) : Nat)) := FnV.mk fn40 rfl md40 (exI_of_exec (n := 1000) (by kernel_rfl)) (fun _ => rfl) rfl
theorem x40_6_1 : FnV TT 40 [.int .i64 6, .int .i64 1] (.int .i64 (parT (1 &&& 6) : Nat)) := FnV.mk fn40 rfl md40 (exI_of_exec (n := 1000) (by kernel_rfl)) (fun _ => rfl) rfl
theorem x40_6_2 : FnV TT 40 [.int .i64 6, .int .i64 2] (.int .i64 (parT (2 &&& 6) : Nat)) := FnV.mk fn40 rfl md40 (exI_of_exec (n := 1000) (by kernel_rfl)) (fun _ => rfl) rfl
theorem x40_6_3 : FnV TT 40 [.int .i64 6, .int .i64 3] (.int .i64 (parT (3 &&& 6) : Nat)) := FnV.mk fn40 rfl md40 (exI_of_exec (n := 1000) (by kernel_rfl)) (fun _ => rfl) rfl
theorem x40_6_4 : FnV TT 40 [.int .i64 6, .int .i64 4] (.int .i64 (parT (4 &&& 6) : Nat)) := FnV.mk fn40 rfl md40 (exI_of_exec (n := 1000) (by kernel_rfl)) (fun _ => rfl) rfl
theorem x40_6_5 : FnV TT 40 [.int .i64 6, .int .i64 5] (.int .i64 (parT (5 &&& 6) : Nat)) := FnV.mk fn40 rfl md40 (exI_of_exec (n := 1000) (by kernel_rfl)) (fun _ => rfl) rfl
theorem x40_6_6 : FnV TT 40 [.int .i64 6, .int .i64 6] (.int .i64 (parT (6 &&& 6) : Nat)) := FnV.mk fn40 rfl md40 (exI_of_exec (n := 1000) (by kernel_rfl)) (fun _ => rfl) rfl
theorem x40_6_7 : FnV TT 40 [.int .i64 6, .int .i64 7] (.int .i64 (parT (7 &&& 6) : Nat)) := FnV.mk fn40 rfl md40 (exI_of_exec (n := 1000) (by kernel_rfl)) (fun _ => rfl) rfl
theorem x40_7_0 : FnV TT 40 [.int .i64 7, .int .i64 0] (.int .i64 (parT (0 &&& 7) : Nat)) := FnV.mk fn40 rfl md40 (exI_of_exec (n := 1000) (by kernel_rfl)) (fun _ => rfl) rfl
theorem x40_7_1 : FnV TT 40 [.int .i64 7, .int .i64 1] (.int .i64 (parT (1 &&& 7) : Nat)) := FnV.mk fn40 rfl md40 (exI_of_exec (n := 1000) (by kernel_rfl)) (fun _ => rfl) rfl
theorem x40_7_2 : FnV TT 40 [.int .i64 7, .int .i64 2] (.int .i64 (parT (2 &&& 7) : Nat)) := FnV.mk fn40 rfl md40 (exI_of_exec (n := 1000) (by kernel_rfl)) (fun _ => rfl) rfl
theorem x40_7_3 : FnV TT 40 [.int .i64 7, .int .i64 3] (.int .i64 (parT (3 &&& 7) : Nat)) := FnV.mk fn40 rfl md40 (exI_of_exec (n := 1000) (by kernel_rfl)) (fun _ => rfl) rfl
theorem x40_7_4 : FnV TT 40 [.int .i64 7, .int .i64 4] (.int .i64 (parT (4 &&& 7) : Nat)) := FnV.mk fn40 rfl md40 (exI_of_exec (n := 1000) (by kernel_rfl)) (fun _ => rfl) rfl
theorem x40_7_5 : FnV TT 40 [.int .i64 7, .int .i64 5] (.int .i64 (parT (5 &&& 7) : Nat)) := FnV.mk fn40 rfl md40 (exI_of_exec (n := 1000) (by kernel_rfl)) (fun _ => rfl) rfl
theorem x40_7_6 : FnV TT 40 [.int .i64 7, .int .i64 6] (.int .i64 (parT (6 &&& 7) : Nat)) := FnV.mk fn40 rfl md40 (exI_of_exec (n := 1000) (by kernel_rfl)) (fun _ => rfl) rfl
theorem x40_7_7 : FnV TT 40 [.int .i64 7, .int .i64 7] (.int .i64 (parT (7 &&& 7) : Nat)) := FnV.mk fn40 rfl md40 (exI_of_exec (n := 1000) (by kernel_rfl)) (fun _ => rfl) rfl
theorem r40 (x m : Nat) (hx : x < 8) (hm : m < 8) : FnV TT 40 [.int .i64 x, .int .i64 m] (.int .i64 (parT (m &&& x) : Nat)) := by
  have h1 : x = 0 ∨ x = 1 ∨ x = 2 ∨ x = 3 ∨ x = 4 ∨ x = 5 ∨ x = 6 ∨ x = 7 := by omega
  have h2 : m = 0 ∨ m = 1 ∨ m = 2 ∨ m = 3 ∨ m = 4 ∨ m = 5 ∨ m = 6 ∨ m = 7 := by omega
  rcases h1 with rfl | rfl | rfl | rfl | rfl | rfl | rfl | rfl
  · rcases h2 with rfl | rfl | rfl | rfl | rfl | rfl | rfl | rfl
    · exact x40_0_0
    · exact x40_0_1
    · exact x40_0_2
    · exact x40_0_3
    · exact x40_0_4
    · exact x40_0_5
    · exact x40_0_6
    · exact x40_0_7
  · rcases h2 with rfl | rfl | rfl | rfl | rfl | rfl | rfl | rfl
    · exact x40_1_0
    · exact x40_1_1
    · exact x40_1_2
    · exact x40_1_3
    · exact x40_1_4
    · exact x40_1_5
    · exact x40_1_6
    · exact x40_1_7
  · rcases h2 with rfl | rfl | rfl | rfl | rfl | rfl | rfl | rfl
    · exact x40_2_0
    · exact x40_2_1
    · exact x40_2_2
    · exact x40_2_3
    · exact x40_2_4
    · exact x40_2_5
    · exact x40_2_6
    · exact x40_2_7
  · rcases h2 with rfl | rfl | rfl | rfl | rfl | rfl | rfl | rfl
    · exact x40_3_0
    · exact x40_3_1
    · exact x40_3_2
    · exact x40_3_3
    · exact x40_3_4
    · exact x40_3_5
    · exact x40_3_6
    · exact x40_3_7
  · rcases h2 with rfl | rfl | rfl | rfl | rfl | rfl | rfl | rfl
    · exact x40_4_0
    · exact x40_4_1
    · exact x40_4_2
    · exact x40_4_3
    · exact x40_4_4
    · exact x40_4_5
    · exact x40_4_6
    · exact x40_4_7
  · rcases h2 with rfl | rfl | rfl | rfl | rfl | rfl | rfl | rfl
    · exact x40_5_0
    · exact x40_5_1
    · exact x40_5_2
    · exact x40_5_3
    · exact x40_5_4
    · exact x40_5_5
    · exact x40_5_6
    · exact x40_5_7
  · rcases h2 with rfl | rfl | rfl | rfl | rfl | rfl | rfl | rfl
    · exact x40_6_0
    · exact x40_6_1
    · exact x40_6_2
    · exact x40_6_3
    · exact x40_6_4
    · exact x40_6_5
    · exact x40_6_6
    · exact x40_6_7
  · rcases h2 with rfl | rfl | rfl | rfl | rfl | rfl | rfl | rfl
    · exact x40_7_0
    · exact x40_7_1
    · exact x40_7_2
    · exact x40_7_3
    · exact x40_7_4
    · exact x40_7_5
    · exact x40_7_6
    · exact x40_7_7

set_option maxHeartbeats 4000000 in
theorem k14 (x m r : Nat) (c1 : ∀ σ, callI TT 40 [.int .i64 (x : Int), .int .i64 (m : Int)] σ = some (.int .i64 (r : Int), σ)) :
    ∃ σ', exI TT (FI.of Tryz.f14 (TT.an 14)) [.code (Tryz.f14.body.getD .skip)] (paramsE 0 [.int .i64 (x : Int), .int .i64 (m : Int)]) ⟨[], 0⟩ = some (.tup [.int .i64 (r : Int), .bool true], σ') := by
  refine ex1 ?_
  rw [fi14]
  simp only [Tryz.f14, Option.getD]
  simp (maxSteps := 1000000) (disch := omega) [xI_seq, xI_region, xI_ret, regA, regOps, runOps, opStep, wantedA, opA, evo, evos, calleeA, lk, nif_eq, putE, paramsE, valS, val2, keepE, restrict, finA, resA, binA, binInt, ofConst, ofConst1, loadA, TK.isAgg, asVar, unA, builtinA, lenOpA, lenA, indexAddrA, evPairs, storeA, AV.cellsOf, pairsOf, xI_nil, binBool, gcE, evOpt, runTr, pairsOk, pairOk, sameVal, AV.eqv, lastOf, lstAt, eqvs, boundA, indexA, regF, twoOf, prsOf, memI, runTrF, selF, runTr2, freshOp, scals, AV.scal, xI_block, xI_loopH, xI_condM, xI_exitM, xI_skip, xI_blk, exitA, List.getElem?_cons_zero, List.getElem?_cons_succ, List.getElem?_toArray, List.getElem?_nil, ileb_t, ileb_f, ieqb_t, ieqb_f, inB_t, wrapA_id, lp_read, ieqb_self, Nat.blt_eq, cond_true, cond_false, ty2, cellsAt, getCells, takeN, dropN, fieldAddrA, allOne, AV.one, n_push, storeCellsA, putN, overN, St.push, St.get, St.set, hget, hset, blt_dec, buildA, sizesOf, fillA, putCells, List.take_succ_cons, List.take_zero, List.drop_succ_cons, List.drop_zero, List.nil_append, List.cons_append, List.length_cons, List.length_nil, eqvs_dgs, ty3, ty4, ty24, ty26, ty33, ty51, ty55, ty57, convA, ty73, ty28, c1]
theorem r14 (x m : Nat) (hx : x < 8) (hm : m < 8) : FnV TT 14 [.int .i64 x, .int .i64 m] (.tup [.int .i64 (parT (m &&& x) : Nat), .bool true]) :=
  FnV.mk fn14 rfl md14 (k14 x m _ (fun σ => r40 x m hx hm σ _ rfl)) (fun _ => rfl) rfl

set_option maxHeartbeats 4000000 in
theorem k8 (m n N M b : Nat) (rows cells ps q : List AV) (σ1 σ2 : St) (c1 : ∀ σ, callI TT 23 [.lst m rows, .lst n cells] σ = some (.bool true, σ)) (c2 : ∀ σ, callI TT 26 [.lst n cells] σ = some (.lst N ps, σ)) (c3 : callI TT 25 [.lst m rows, .lst N ps] ⟨[], 0⟩ = some (.sl b 0 M M, σ1)) (c4 : callI TT 24 [.sl b 0 M M] σ1 = some (.tup [.lst M q, .bool true], σ2)) :
    ∃ σ', exI TT (FI.of Tryz.f8 (TT.an 8)) [.code (Tryz.f8.body.getD .skip)] (paramsE 0 [.lst m rows, .lst n cells]) ⟨[], 0⟩ = some (.tup [.lst M q, .bool true], σ') := by
  refine ex1 ?_
  rw [fi8]
  simp only [Tryz.f8, Option.getD]
  simp (maxSteps := 1000000) (disch := omega) [xI_seq, xI_region, xI_ret, regA, regOps, runOps, opStep, wantedA, opA, evo, evos, calleeA, lk, nif_eq, putE, paramsE, valS, val2, keepE, restrict, finA, resA, binA, binInt, ofConst, ofConst1, loadA, TK.isAgg, asVar, unA, builtinA, lenOpA, lenA, indexAddrA, evPairs, storeA, AV.cellsOf, pairsOf, xI_nil, binBool, gcE, evOpt, runTr, pairsOk, pairOk, sameVal, AV.eqv, lastOf, lstAt, eqvs, boundA, indexA, regF, twoOf, prsOf, memI, runTrF, selF, runTr2, freshOp, scals, AV.scal, xI_block, xI_loopH, xI_condM, xI_exitM, xI_skip, xI_blk, exitA, List.getElem?_cons_zero, List.getElem?_cons_succ, List.getElem?_toArray, List.getElem?_nil, ileb_t, ileb_f, ieqb_t, ieqb_f, inB_t, wrapA_id, lp_read, ieqb_self, Nat.blt_eq, cond_true, cond_false, ty4, getCells, takeN, dropN, fieldAddrA, allOne, AV.one, n_push, putN, overN, blt_dec, buildA, sizesOf, fillA, putCells, List.take_succ_cons, List.take_zero, List.drop_succ_cons, List.drop_zero, List.nil_append, List.cons_append, List.length_cons, List.length_nil, eqvs_dgs, ty2, ty3, ty24, ty26, ty33, ty51, ty55, ty57, convA, ty73, ty28, c1, c2, c3, c4]
theorem r8 (l : List Nat) (h1 : 1 ≤ l.length) (h3 : l.length ≤ 3) (p : List Rat) (hf : ∀ x ∈ p, fits x = true) (hpl : p.length ≤ 16) (hs : isSrc (frL p) = true) (nb : Nat) (hnb : (bl p.length : Int) - 1 = nb) (hnb4 : nb ≤ 4) (hl : ∀ r ∈ l, r < 2 ^ nb) (hfe : ∀ x ∈ exL l p p.length, fits x = true) : FnF TT 8 [.lst l.length (ints (nintsL l)), FS (frL p)] (.tup [FS (frL (exL l p p.length)), .bool true]) := by
  have hp : 2 ^ nb ≤ 2 ^ 4 := Nat.pow_le_pow_right (by decide) hnb4
  have hl16 : ∀ r ∈ l, r < 16 := fun r hr => by have := hl r hr; omega
  have hpn : 2 ^ l.length ≤ 2 ^ 3 := Nat.pow_le_pow_right (by decide) h3
  have c1 := r23 l h1 h3 (frL p) hs nb (by rw [frL_len]; exact hnb) hnb4 hl (by rw [frL_len]; exact hpl)
  have c2 := r26 (frL p) (frL_vfl hf) (by rw [frL_len]; omega)
  rw [frL_rq] at c2
  obtain ⟨b, σ1, c3, r3, o3, _⟩ := c25 l hl16 h3 p (fits_bds hf) hpl (.lst l.length (ints (nintsL l))) ⟨[], 0⟩ (.inl (by rw [nintsL_len]))
  have c4 := r24 (exL l p p.length) hfe (by rw [exL_len]; omega)
  rw [RS, exL_len] at c4
  obtain ⟨σ2, c5, _⟩ := c4.rowE r3 (by rw [flat_len RC_len, exL_len]) (flat_frz (fun v => RC_frz σ1 4 v) _) (flat_rows (fun _ => rfl) _) (Nat.le_refl _)
  have e : FS (frL (exL l p p.length)) = .lst (2 ^ l.length) (flat FC (frL (exL l p p.length))) := by rw [FS, frL_len, exL_len]
  rw [e] at c5 ⊢
  refine FnF.mkv (c := Tryz.f8.body.getD .skip) fn8 rfl md8 (k8 _ _ _ _ b _ _ _ _ σ1 σ2 (fun σ => c1 σ _ rfl) (fun σ => c2.pure σ rfl rfl) c3 c5) (fun _ => rfl)

end Go.Proofs.YtkglajdhlmmlfaaGreat
