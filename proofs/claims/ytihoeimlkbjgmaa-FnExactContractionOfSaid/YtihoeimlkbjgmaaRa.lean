/- Contracts: walks and their contraction. Nothing is claimed here; no condition. -/
import Derived.Test.YtihoeimlkbjgmaaQd
set_option linter.unusedSimpArgs false
set_option linter.unusedVariables false
namespace Go.Proofs.Ytihoeimlkbjgmaa
open Go Go.Abs Go.Nm
attribute [local simp] xI_seq xI_region xI_ret regA regOps runOps opStep wantedA opA evo evos calleeA lk nif_eq putE paramsE valS val2 keepE restrict finA resA binA binInt ofConst ofConst1 loadA TK.isAgg asVar unA builtinA lenOpA lenA indexAddrA evPairs storeA AV.cellsOf pairsOf xI_nil binBool gcE evOpt runTr pairsOk pairOk sameVal AV.eqv lastOf lstAt eqvs boundA indexA regF twoOf prsOf memI runTrF selF runTr2 freshOp scals AV.scal xI_block xI_loopH xI_condM xI_exitM xI_skip xI_blk exitA List.getElem?_cons_zero List.getElem?_cons_succ List.getElem?_toArray List.getElem?_nil ileb_t ileb_f ieqb_t ieqb_f inB_t wrapA_id lp_read ieqb_self Nat.blt_eq cond_true cond_false ty2 ty3 ty4 ty22 ty25 ty29 ty31 ty34 ty36 ty41 ty48 ty58 ty76 ty90 ty92 ty97 ty99 ty101 ty104 ty115
theorem v87 : FnV TT 87 [] (.agg [.int .i64 0, .int .i64 1]) := by
  refine FnV.mk (c := Try.f87.body.getD .skip) fn87 rfl md87 (ex1 ?_) (fun _ => rfl) rfl
  rw [fi87]
  simp only [Try.f87, Option.getD]
  simp (maxSteps := 1000000) (disch := omega) [cellsAt, getCells, takeN, dropN, fieldAddrA, allOne, AV.one, n_push, storeCellsA, putN, overN, St.push, St.get, St.set, hget, hset, blt_dec, buildA, sizesOf, fillA, putCells, List.take_succ_cons, List.take_zero, List.drop_succ_cons, List.drop_zero, List.nil_append, List.cons_append, List.length_cons, List.length_nil, eqvs_dgs]

set_option maxHeartbeats 8000000 in
theorem k82 (n d : Int) (m : Nat) (b : Bool) (nx ny : Nat) (lx ly : List Nat) (hb : (!ileb 0 n) = b) (hw : wrapA .i64 (-n) = -n) (c1 : ∀ σ, callI TT 134 [.int .i64 n, .int .i64 (-n)] σ = some (.int .i64 m, σ)) (c2 : ∀ σ, callI TT 145 [.int .i64 m] σ = some (.lst nx (dgs .i64 lx), σ)) (c3 : ∀ σ, callI TT 145 [.int .i64 d] σ = some (.lst ny (dgs .i64 ly), σ)) :
    ∃ σ1, exI TT (FI.of Try.f82 (TT.an 82)) [.code (Try.f82.body.getD .skip)] (paramsE 0 [.agg [.int .i64 n, .int .i64 d]]) ⟨[], 0⟩ = some (.agg [.bool b, .lst nx (dgs .i64 lx), .lst ny (dgs .i64 ly), .bool true, .int .i64 n, .int .i64 d], σ1) := by
  refine ex1 ?_
  rw [fi82]
  simp only [Try.f82, Option.getD]
  simp (maxSteps := 1000000) (disch := omega) [cellsAt, getCells, takeN, dropN, fieldAddrA, allOne, AV.one, n_push, storeCellsA, putN, overN, St.push, St.get, St.set, hget, hset, blt_dec, buildA, sizesOf, fillA, putCells, List.take_succ_cons, List.take_zero, List.drop_succ_cons, List.drop_zero, List.nil_append, List.cons_append, List.length_cons, List.length_nil, eqvs_dgs, hb, hw, c1, c2, c3]

set_option maxHeartbeats 8000000 in
theorem k141f (b1 b2 b' : Bool) (a1 a2 c1_ c2_ r1 r2 r3 r4 : Int) (nx ny nu nv nt nw : Nat) (lx ly lu lv lt lw : List Nat) (c1 : ∀ σ, callI TT 103 [.agg [.int .i64 a1, .int .i64 a2], .agg [.int .i64 c1_, .int .i64 c2_]] σ = some (.tup [.agg [.int .i64 r1, .int .i64 r2], .bool true], σ)) (c2 : ∀ σ, callI TT 82 [.agg [.int .i64 r1, .int .i64 r2]] σ = some (.agg [.bool b', .lst nt (dgs .i64 lt), .lst nw (dgs .i64 lw), .bool true, .int .i64 r3, .int .i64 r4], σ)) :
    ∃ σ1, exI TT (FI.of Try.f141 (TT.an 141)) [.code (Try.f141.body.getD .skip)] (paramsE 0 [.agg [.bool b1, .lst nx (dgs .i64 lx), .lst ny (dgs .i64 ly), .bool true, .int .i64 a1, .int .i64 a2], .agg [.bool b2, .lst nu (dgs .i64 lu), .lst nv (dgs .i64 lv), .bool true, .int .i64 c1_, .int .i64 c2_]]) ⟨[], 0⟩ = some (.agg [.bool b', .lst nt (dgs .i64 lt), .lst nw (dgs .i64 lw), .bool true, .int .i64 r3, .int .i64 r4], σ1) := by
  refine ex1 ?_
  rw [fi141]
  simp only [Try.f141, Option.getD]
  simp (maxSteps := 1000000) (disch := omega) [cellsAt, getCells, takeN, dropN, fieldAddrA, allOne, AV.one, n_push, storeCellsA, putN, overN, St.push, St.get, St.set, hget, hset, blt_dec, buildA, sizesOf, fillA, putCells, List.take_succ_cons, List.take_zero, List.drop_succ_cons, List.drop_zero, List.nil_append, List.cons_append, List.length_cons, List.length_nil, eqvs_dgs, c1, c2]
set_option maxHeartbeats 8000000 in
theorem k141s (fa fb b1 b2 : Bool) (a1 a2 c1_ c2_ : Int) (nx ny nu nv np nq nw nt : Nat) (lx ly lu lv lp lq lw lt : List Nat) (hf : fa = true → fb = true → ∀ σ, callI TT 103 [.agg [.int .i64 a1, .int .i64 a2], .agg [.int .i64 c1_, .int .i64 c2_]] σ = some (.tup [.agg [.int .i64 0, .int .i64 0], .bool false], σ)) (c1 : ∀ σ, callI TT 144 [.lst nx (dgs .i64 lx), .lst nv (dgs .i64 lv)] σ = some (.lst np (dgs .i64 lp), σ)) (c2 : ∀ σ, callI TT 144 [.lst nu (dgs .i64 lu), .lst ny (dgs .i64 ly)] σ = some (.lst nq (dgs .i64 lq), σ)) (c3 : ∀ σ, callI TT 144 [.lst ny (dgs .i64 ly), .lst nv (dgs .i64 lv)] σ = some (.lst nw (dgs .i64 lw), σ)) (hb : b1 = b2) (c4 : ∀ σ, callI TT 179 [.lst np (dgs .i64 lp), .lst nq (dgs .i64 lq)] σ = some (.lst nt (dgs .i64 lt), σ)) : ∃ σ1, exI TT (FI.of Try.f141 (TT.an 141)) [.code (Try.f141.body.getD .skip)] (paramsE 0 [.agg [.bool b1, .lst nx (dgs .i64 lx), .lst ny (dgs .i64 ly), .bool fa, .int .i64 a1, .int .i64 a2], .agg [.bool b2, .lst nu (dgs .i64 lu), .lst nv (dgs .i64 lv), .bool fb, .int .i64 c1_, .int .i64 c2_]]) ⟨[], 0⟩ = some (.agg [.bool b1, .lst nt (dgs .i64 lt), .lst nw (dgs .i64 lw), .bool false, .int .i64 0, .int .i64 0], σ1) := by
  subst hb
  refine ex1 ?_
  rw [fi141]
  simp only [Try.f141, Option.getD]
  cases b1
  ·
    cases fa
    · cases fb <;>
        simp (maxSteps := 1000000) (disch := omega) [cellsAt, getCells, takeN, dropN, fieldAddrA, allOne, AV.one, n_push, storeCellsA, putN, overN, St.push, St.get, St.set, hget, hset, blt_dec, buildA, sizesOf, fillA, putCells, List.take_succ_cons, List.take_zero, List.drop_succ_cons, List.drop_zero, List.nil_append, List.cons_append, List.length_cons, List.length_nil, eqvs_dgs, c1, c2, c3, c4]
    · cases fb
      ·
        simp (maxSteps := 1000000) (disch := omega) [cellsAt, getCells, takeN, dropN, fieldAddrA, allOne, AV.one, n_push, storeCellsA, putN, overN, St.push, St.get, St.set, hget, hset, blt_dec, buildA, sizesOf, fillA, putCells, List.take_succ_cons, List.take_zero, List.drop_succ_cons, List.drop_zero, List.nil_append, List.cons_append, List.length_cons, List.length_nil, eqvs_dgs, c1, c2, c3, c4]
      · have hf := hf rfl rfl
        simp (maxSteps := 1000000) (disch := omega) [cellsAt, getCells, takeN, dropN, fieldAddrA, allOne, AV.one, n_push, storeCellsA, putN, overN, St.push, St.get, St.set, hget, hset, blt_dec, buildA, sizesOf, fillA, putCells, List.take_succ_cons, List.take_zero, List.drop_succ_cons, List.drop_zero, List.nil_append, List.cons_append, List.length_cons, List.length_nil, eqvs_dgs, c1, c2, c3, c4, hf]
  ·
    cases fa
    · cases fb <;>
        simp (maxSteps := 1000000) (disch := omega) [cellsAt, getCells, takeN, dropN, fieldAddrA, allOne, AV.one, n_push, storeCellsA, putN, overN, St.push, St.get, St.set, hget, hset, blt_dec, buildA, sizesOf, fillA, putCells, List.take_succ_cons, List.take_zero, List.drop_succ_cons, List.drop_zero, List.nil_append, List.cons_append, List.length_cons, List.length_nil, eqvs_dgs, c1, c2, c3, c4]
    · cases fb
      ·
        simp (maxSteps := 1000000) (disch := omega) [cellsAt, getCells, takeN, dropN, fieldAddrA, allOne, AV.one, n_push, storeCellsA, putN, overN, St.push, St.get, St.set, hget, hset, blt_dec, buildA, sizesOf, fillA, putCells, List.take_succ_cons, List.take_zero, List.drop_succ_cons, List.drop_zero, List.nil_append, List.cons_append, List.length_cons, List.length_nil, eqvs_dgs, c1, c2, c3, c4]
      · have hf := hf rfl rfl
        simp (maxSteps := 1000000) (disch := omega) [cellsAt, getCells, takeN, dropN, fieldAddrA, allOne, AV.one, n_push, storeCellsA, putN, overN, St.push, St.get, St.set, hget, hset, blt_dec, buildA, sizesOf, fillA, putCells, List.take_succ_cons, List.take_zero, List.drop_succ_cons, List.drop_zero, List.nil_append, List.cons_append, List.length_cons, List.length_nil, eqvs_dgs, c1, c2, c3, c4, hf]
set_option maxHeartbeats 8000000 in
theorem k141l (fa fb b1 b2 : Bool) (a1 a2 c1_ c2_ : Int) (nx ny nu nv np nq nw nt : Nat) (lx ly lu lv lp lq lw lt : List Nat) (z : Int) (hf : fa = true → fb = true → ∀ σ, callI TT 103 [.agg [.int .i64 a1, .int .i64 a2], .agg [.int .i64 c1_, .int .i64 c2_]] σ = some (.tup [.agg [.int .i64 0, .int .i64 0], .bool false], σ)) (c1 : ∀ σ, callI TT 144 [.lst nx (dgs .i64 lx), .lst nv (dgs .i64 lv)] σ = some (.lst np (dgs .i64 lp), σ)) (c2 : ∀ σ, callI TT 144 [.lst nu (dgs .i64 lu), .lst ny (dgs .i64 ly)] σ = some (.lst nq (dgs .i64 lq), σ)) (c3 : ∀ σ, callI TT 144 [.lst ny (dgs .i64 ly), .lst nv (dgs .i64 lv)] σ = some (.lst nw (dgs .i64 lw), σ)) (hb : b1 ≠ b2) (c5 : ∀ σ, callI TT 178 [.lst np (dgs .i64 lp), .lst nq (dgs .i64 lq)] σ = some (.int .i64 z, σ)) (hz : z < 0) (c4 : ∀ σ, callI TT 180 [.lst nq (dgs .i64 lq), .lst np (dgs .i64 lp)] σ = some (.lst nt (dgs .i64 lt), σ)) : ∃ σ1, exI TT (FI.of Try.f141 (TT.an 141)) [.code (Try.f141.body.getD .skip)] (paramsE 0 [.agg [.bool b1, .lst nx (dgs .i64 lx), .lst ny (dgs .i64 ly), .bool fa, .int .i64 a1, .int .i64 a2], .agg [.bool b2, .lst nu (dgs .i64 lu), .lst nv (dgs .i64 lv), .bool fb, .int .i64 c1_, .int .i64 c2_]]) ⟨[], 0⟩ = some (.agg [.bool b2, .lst nt (dgs .i64 lt), .lst nw (dgs .i64 lw), .bool false, .int .i64 0, .int .i64 0], σ1) := by
  refine ex1 ?_
  rw [fi141]
  simp only [Try.f141, Option.getD]
  cases b1 <;> cases b2 <;> first | exact absurd rfl hb | skip
  ·
    cases fa
    · cases fb <;>
        simp (maxSteps := 1000000) (disch := omega) [cellsAt, getCells, takeN, dropN, fieldAddrA, allOne, AV.one, n_push, storeCellsA, putN, overN, St.push, St.get, St.set, hget, hset, blt_dec, buildA, sizesOf, fillA, putCells, List.take_succ_cons, List.take_zero, List.drop_succ_cons, List.drop_zero, List.nil_append, List.cons_append, List.length_cons, List.length_nil, eqvs_dgs, c1, c2, c3, c4, c5]
    · cases fb
      ·
        simp (maxSteps := 1000000) (disch := omega) [cellsAt, getCells, takeN, dropN, fieldAddrA, allOne, AV.one, n_push, storeCellsA, putN, overN, St.push, St.get, St.set, hget, hset, blt_dec, buildA, sizesOf, fillA, putCells, List.take_succ_cons, List.take_zero, List.drop_succ_cons, List.drop_zero, List.nil_append, List.cons_append, List.length_cons, List.length_nil, eqvs_dgs, c1, c2, c3, c4, c5]
      · have hf := hf rfl rfl
        simp (maxSteps := 1000000) (disch := omega) [cellsAt, getCells, takeN, dropN, fieldAddrA, allOne, AV.one, n_push, storeCellsA, putN, overN, St.push, St.get, St.set, hget, hset, blt_dec, buildA, sizesOf, fillA, putCells, List.take_succ_cons, List.take_zero, List.drop_succ_cons, List.drop_zero, List.nil_append, List.cons_append, List.length_cons, List.length_nil, eqvs_dgs, c1, c2, c3, c4, c5, hf]
  ·
    cases fa
    · cases fb <;>
        simp (maxSteps := 1000000) (disch := omega) [cellsAt, getCells, takeN, dropN, fieldAddrA, allOne, AV.one, n_push, storeCellsA, putN, overN, St.push, St.get, St.set, hget, hset, blt_dec, buildA, sizesOf, fillA, putCells, List.take_succ_cons, List.take_zero, List.drop_succ_cons, List.drop_zero, List.nil_append, List.cons_append, List.length_cons, List.length_nil, eqvs_dgs, c1, c2, c3, c4, c5]
    · cases fb
      ·
        simp (maxSteps := 1000000) (disch := omega) [cellsAt, getCells, takeN, dropN, fieldAddrA, allOne, AV.one, n_push, storeCellsA, putN, overN, St.push, St.get, St.set, hget, hset, blt_dec, buildA, sizesOf, fillA, putCells, List.take_succ_cons, List.take_zero, List.drop_succ_cons, List.drop_zero, List.nil_append, List.cons_append, List.length_cons, List.length_nil, eqvs_dgs, c1, c2, c3, c4, c5]
      · have hf := hf rfl rfl
        simp (maxSteps := 1000000) (disch := omega) [cellsAt, getCells, takeN, dropN, fieldAddrA, allOne, AV.one, n_push, storeCellsA, putN, overN, St.push, St.get, St.set, hget, hset, blt_dec, buildA, sizesOf, fillA, putCells, List.take_succ_cons, List.take_zero, List.drop_succ_cons, List.drop_zero, List.nil_append, List.cons_append, List.length_cons, List.length_nil, eqvs_dgs, c1, c2, c3, c4, c5, hf]
set_option maxHeartbeats 8000000 in
theorem k141g (fa fb b1 b2 : Bool) (a1 a2 c1_ c2_ : Int) (nx ny nu nv np nq nw nt : Nat) (lx ly lu lv lp lq lw lt : List Nat) (z : Int) (hf : fa = true → fb = true → ∀ σ, callI TT 103 [.agg [.int .i64 a1, .int .i64 a2], .agg [.int .i64 c1_, .int .i64 c2_]] σ = some (.tup [.agg [.int .i64 0, .int .i64 0], .bool false], σ)) (c1 : ∀ σ, callI TT 144 [.lst nx (dgs .i64 lx), .lst nv (dgs .i64 lv)] σ = some (.lst np (dgs .i64 lp), σ)) (c2 : ∀ σ, callI TT 144 [.lst nu (dgs .i64 lu), .lst ny (dgs .i64 ly)] σ = some (.lst nq (dgs .i64 lq), σ)) (c3 : ∀ σ, callI TT 144 [.lst ny (dgs .i64 ly), .lst nv (dgs .i64 lv)] σ = some (.lst nw (dgs .i64 lw), σ)) (hb : b1 ≠ b2) (c5 : ∀ σ, callI TT 178 [.lst np (dgs .i64 lp), .lst nq (dgs .i64 lq)] σ = some (.int .i64 z, σ)) (hz : 0 ≤ z) (c4 : ∀ σ, callI TT 180 [.lst np (dgs .i64 lp), .lst nq (dgs .i64 lq)] σ = some (.lst nt (dgs .i64 lt), σ)) : ∃ σ1, exI TT (FI.of Try.f141 (TT.an 141)) [.code (Try.f141.body.getD .skip)] (paramsE 0 [.agg [.bool b1, .lst nx (dgs .i64 lx), .lst ny (dgs .i64 ly), .bool fa, .int .i64 a1, .int .i64 a2], .agg [.bool b2, .lst nu (dgs .i64 lu), .lst nv (dgs .i64 lv), .bool fb, .int .i64 c1_, .int .i64 c2_]]) ⟨[], 0⟩ = some (.agg [.bool b1, .lst nt (dgs .i64 lt), .lst nw (dgs .i64 lw), .bool false, .int .i64 0, .int .i64 0], σ1) := by
  refine ex1 ?_
  rw [fi141]
  simp only [Try.f141, Option.getD]
  cases b1 <;> cases b2 <;> first | exact absurd rfl hb | skip
  ·
    cases fa
    · cases fb <;>
        simp (maxSteps := 1000000) (disch := omega) [cellsAt, getCells, takeN, dropN, fieldAddrA, allOne, AV.one, n_push, storeCellsA, putN, overN, St.push, St.get, St.set, hget, hset, blt_dec, buildA, sizesOf, fillA, putCells, List.take_succ_cons, List.take_zero, List.drop_succ_cons, List.drop_zero, List.nil_append, List.cons_append, List.length_cons, List.length_nil, eqvs_dgs, c1, c2, c3, c4, c5]
    · cases fb
      ·
        simp (maxSteps := 1000000) (disch := omega) [cellsAt, getCells, takeN, dropN, fieldAddrA, allOne, AV.one, n_push, storeCellsA, putN, overN, St.push, St.get, St.set, hget, hset, blt_dec, buildA, sizesOf, fillA, putCells, List.take_succ_cons, List.take_zero, List.drop_succ_cons, List.drop_zero, List.nil_append, List.cons_append, List.length_cons, List.length_nil, eqvs_dgs, c1, c2, c3, c4, c5]
      · have hf := hf rfl rfl
        simp (maxSteps := 1000000) (disch := omega) [cellsAt, getCells, takeN, dropN, fieldAddrA, allOne, AV.one, n_push, storeCellsA, putN, overN, St.push, St.get, St.set, hget, hset, blt_dec, buildA, sizesOf, fillA, putCells, List.take_succ_cons, List.take_zero, List.drop_succ_cons, List.drop_zero, List.nil_append, List.cons_append, List.length_cons, List.length_nil, eqvs_dgs, c1, c2, c3, c4, c5, hf]
  ·
    cases fa
    · cases fb <;>
        simp (maxSteps := 1000000) (disch := omega) [cellsAt, getCells, takeN, dropN, fieldAddrA, allOne, AV.one, n_push, storeCellsA, putN, overN, St.push, St.get, St.set, hget, hset, blt_dec, buildA, sizesOf, fillA, putCells, List.take_succ_cons, List.take_zero, List.drop_succ_cons, List.drop_zero, List.nil_append, List.cons_append, List.length_cons, List.length_nil, eqvs_dgs, c1, c2, c3, c4, c5]
    · cases fb
      ·
        simp (maxSteps := 1000000) (disch := omega) [cellsAt, getCells, takeN, dropN, fieldAddrA, allOne, AV.one, n_push, storeCellsA, putN, overN, St.push, St.get, St.set, hget, hset, blt_dec, buildA, sizesOf, fillA, putCells, List.take_succ_cons, List.take_zero, List.drop_succ_cons, List.drop_zero, List.nil_append, List.cons_append, List.length_cons, List.length_nil, eqvs_dgs, c1, c2, c3, c4, c5]
      · have hf := hf rfl rfl
        simp (maxSteps := 1000000) (disch := omega) [cellsAt, getCells, takeN, dropN, fieldAddrA, allOne, AV.one, n_push, storeCellsA, putN, overN, St.push, St.get, St.set, hget, hset, blt_dec, buildA, sizesOf, fillA, putCells, List.take_succ_cons, List.take_zero, List.drop_succ_cons, List.drop_zero, List.nil_append, List.cons_append, List.length_cons, List.length_nil, eqvs_dgs, c1, c2, c3, c4, c5, hf]

set_option maxHeartbeats 8000000 in
theorem k81f (b1 b2 b' : Bool) (a1 a2 c1_ c2_ r1 r2 r3 r4 : Int) (nx ny nu nv nt nw : Nat) (lx ly lu lv lt lw : List Nat) (c1 : ∀ σ, callI TT 105 [.agg [.int .i64 a1, .int .i64 a2], .agg [.int .i64 c1_, .int .i64 c2_]] σ = some (.tup [.agg [.int .i64 r1, .int .i64 r2], .bool true], σ)) (c2 : ∀ σ, callI TT 82 [.agg [.int .i64 r1, .int .i64 r2]] σ = some (.agg [.bool b', .lst nt (dgs .i64 lt), .lst nw (dgs .i64 lw), .bool true, .int .i64 r3, .int .i64 r4], σ)) :
    ∃ σ1, exI TT (FI.of Try.f81 (TT.an 81)) [.code (Try.f81.body.getD .skip)] (paramsE 0 [.agg [.bool b1, .lst nx (dgs .i64 lx), .lst ny (dgs .i64 ly), .bool true, .int .i64 a1, .int .i64 a2], .agg [.bool b2, .lst nu (dgs .i64 lu), .lst nv (dgs .i64 lv), .bool true, .int .i64 c1_, .int .i64 c2_]]) ⟨[], 0⟩ = some (.agg [.bool b', .lst nt (dgs .i64 lt), .lst nw (dgs .i64 lw), .bool true, .int .i64 r3, .int .i64 r4], σ1) := by
  refine ex1 ?_
  rw [fi81]
  simp only [Try.f81, Option.getD]
  simp (maxSteps := 1000000) (disch := omega) [cellsAt, getCells, takeN, dropN, fieldAddrA, allOne, AV.one, n_push, storeCellsA, putN, overN, St.push, St.get, St.set, hget, hset, blt_dec, buildA, sizesOf, fillA, putCells, List.take_succ_cons, List.take_zero, List.drop_succ_cons, List.drop_zero, List.nil_append, List.cons_append, List.length_cons, List.length_nil, eqvs_dgs, c1, c2]
set_option maxHeartbeats 8000000 in
theorem k81 (fa fb b1 b2 : Bool) (a1 a2 c1_ c2_ : Int) (nx ny nu nv nt nw : Nat) (lx ly lu lv lt lw : List Nat) (hf : fa = true → fb = true → ∀ σ, callI TT 105 [.agg [.int .i64 a1, .int .i64 a2], .agg [.int .i64 c1_, .int .i64 c2_]] σ = some (.tup [.agg [.int .i64 0, .int .i64 0], .bool false], σ)) (c1 : ∀ σ, callI TT 144 [.lst nx (dgs .i64 lx), .lst nu (dgs .i64 lu)] σ = some (.lst nt (dgs .i64 lt), σ)) (c2 : ∀ σ, callI TT 144 [.lst ny (dgs .i64 ly), .lst nv (dgs .i64 lv)] σ = some (.lst nw (dgs .i64 lw), σ)) : ∃ σ1, exI TT (FI.of Try.f81 (TT.an 81)) [.code (Try.f81.body.getD .skip)] (paramsE 0 [.agg [.bool b1, .lst nx (dgs .i64 lx), .lst ny (dgs .i64 ly), .bool fa, .int .i64 a1, .int .i64 a2], .agg [.bool b2, .lst nu (dgs .i64 lu), .lst nv (dgs .i64 lv), .bool fb, .int .i64 c1_, .int .i64 c2_]]) ⟨[], 0⟩ = some (.agg [.bool (b1 != b2), .lst nt (dgs .i64 lt), .lst nw (dgs .i64 lw), .bool false, .int .i64 0, .int .i64 0], σ1) := by
  refine ex1 ?_
  rw [fi81]
  simp only [Try.f81, Option.getD]
  cases b1 <;> cases b2
  ·
    cases fa
    · cases fb <;>
        simp (maxSteps := 1000000) (disch := omega) [cellsAt, getCells, takeN, dropN, fieldAddrA, allOne, AV.one, n_push, storeCellsA, putN, overN, St.push, St.get, St.set, hget, hset, blt_dec, buildA, sizesOf, fillA, putCells, List.take_succ_cons, List.take_zero, List.drop_succ_cons, List.drop_zero, List.nil_append, List.cons_append, List.length_cons, List.length_nil, eqvs_dgs, c1, c2]
    · cases fb
      ·
        simp (maxSteps := 1000000) (disch := omega) [cellsAt, getCells, takeN, dropN, fieldAddrA, allOne, AV.one, n_push, storeCellsA, putN, overN, St.push, St.get, St.set, hget, hset, blt_dec, buildA, sizesOf, fillA, putCells, List.take_succ_cons, List.take_zero, List.drop_succ_cons, List.drop_zero, List.nil_append, List.cons_append, List.length_cons, List.length_nil, eqvs_dgs, c1, c2]
      · have hf := hf rfl rfl
        simp (maxSteps := 1000000) (disch := omega) [cellsAt, getCells, takeN, dropN, fieldAddrA, allOne, AV.one, n_push, storeCellsA, putN, overN, St.push, St.get, St.set, hget, hset, blt_dec, buildA, sizesOf, fillA, putCells, List.take_succ_cons, List.take_zero, List.drop_succ_cons, List.drop_zero, List.nil_append, List.cons_append, List.length_cons, List.length_nil, eqvs_dgs, c1, c2, hf]
  ·
    cases fa
    · cases fb <;>
        simp (maxSteps := 1000000) (disch := omega) [cellsAt, getCells, takeN, dropN, fieldAddrA, allOne, AV.one, n_push, storeCellsA, putN, overN, St.push, St.get, St.set, hget, hset, blt_dec, buildA, sizesOf, fillA, putCells, List.take_succ_cons, List.take_zero, List.drop_succ_cons, List.drop_zero, List.nil_append, List.cons_append, List.length_cons, List.length_nil, eqvs_dgs, c1, c2]
    · cases fb
      ·
        simp (maxSteps := 1000000) (disch := omega) [cellsAt, getCells, takeN, dropN, fieldAddrA, allOne, AV.one, n_push, storeCellsA, putN, overN, St.push, St.get, St.set, hget, hset, blt_dec, buildA, sizesOf, fillA, putCells, List.take_succ_cons, List.take_zero, List.drop_succ_cons, List.drop_zero, List.nil_append, List.cons_append, List.length_cons, List.length_nil, eqvs_dgs, c1, c2]
      · have hf := hf rfl rfl
        simp (maxSteps := 1000000) (disch := omega) [cellsAt, getCells, takeN, dropN, fieldAddrA, allOne, AV.one, n_push, storeCellsA, putN, overN, St.push, St.get, St.set, hget, hset, blt_dec, buildA, sizesOf, fillA, putCells, List.take_succ_cons, List.take_zero, List.drop_succ_cons, List.drop_zero, List.nil_append, List.cons_append, List.length_cons, List.length_nil, eqvs_dgs, c1, c2, hf]
  ·
    cases fa
    · cases fb <;>
        simp (maxSteps := 1000000) (disch := omega) [cellsAt, getCells, takeN, dropN, fieldAddrA, allOne, AV.one, n_push, storeCellsA, putN, overN, St.push, St.get, St.set, hget, hset, blt_dec, buildA, sizesOf, fillA, putCells, List.take_succ_cons, List.take_zero, List.drop_succ_cons, List.drop_zero, List.nil_append, List.cons_append, List.length_cons, List.length_nil, eqvs_dgs, c1, c2]
    · cases fb
      ·
        simp (maxSteps := 1000000) (disch := omega) [cellsAt, getCells, takeN, dropN, fieldAddrA, allOne, AV.one, n_push, storeCellsA, putN, overN, St.push, St.get, St.set, hget, hset, blt_dec, buildA, sizesOf, fillA, putCells, List.take_succ_cons, List.take_zero, List.drop_succ_cons, List.drop_zero, List.nil_append, List.cons_append, List.length_cons, List.length_nil, eqvs_dgs, c1, c2]
      · have hf := hf rfl rfl
        simp (maxSteps := 1000000) (disch := omega) [cellsAt, getCells, takeN, dropN, fieldAddrA, allOne, AV.one, n_push, storeCellsA, putN, overN, St.push, St.get, St.set, hget, hset, blt_dec, buildA, sizesOf, fillA, putCells, List.take_succ_cons, List.take_zero, List.drop_succ_cons, List.drop_zero, List.nil_append, List.cons_append, List.length_cons, List.length_nil, eqvs_dgs, c1, c2, hf]
  ·
    cases fa
    · cases fb <;>
        simp (maxSteps := 1000000) (disch := omega) [cellsAt, getCells, takeN, dropN, fieldAddrA, allOne, AV.one, n_push, storeCellsA, putN, overN, St.push, St.get, St.set, hget, hset, blt_dec, buildA, sizesOf, fillA, putCells, List.take_succ_cons, List.take_zero, List.drop_succ_cons, List.drop_zero, List.nil_append, List.cons_append, List.length_cons, List.length_nil, eqvs_dgs, c1, c2]
    · cases fb
      ·
        simp (maxSteps := 1000000) (disch := omega) [cellsAt, getCells, takeN, dropN, fieldAddrA, allOne, AV.one, n_push, storeCellsA, putN, overN, St.push, St.get, St.set, hget, hset, blt_dec, buildA, sizesOf, fillA, putCells, List.take_succ_cons, List.take_zero, List.drop_succ_cons, List.drop_zero, List.nil_append, List.cons_append, List.length_cons, List.length_nil, eqvs_dgs, c1, c2]
      · have hf := hf rfl rfl
        simp (maxSteps := 1000000) (disch := omega) [cellsAt, getCells, takeN, dropN, fieldAddrA, allOne, AV.one, n_push, storeCellsA, putN, overN, St.push, St.get, St.set, hget, hset, blt_dec, buildA, sizesOf, fillA, putCells, List.take_succ_cons, List.take_zero, List.drop_succ_cons, List.drop_zero, List.nil_append, List.cons_append, List.length_cons, List.length_nil, eqvs_dgs, c1, c2, hf]

noncomputable def b139 : Code := Try.f139.body.getD .skip
noncomputable def B139_0 : Code := (bodyC (bodyC (fstC (sndC (sndC (sndC (sndC b139)))))))
noncomputable def K139_0 : List It := .lp B139_0 :: .blk 0 :: .code (sndC (sndC (sndC (sndC (sndC b139))))) :: []
theorem xl139_0 {fi : FI} {env : Env} {σ : St} : exI TT fi K139_0 env σ = exI TT fi (.code B139_0 :: K139_0) env σ := by unfold K139_0; exact xI_lp
noncomputable def R139_0_0 : List It := .code (sndC (sndC (sndC (sndC (sndC b139))))) :: []
theorem eK139_0_0 : exitA 0 K139_0 = some R139_0_0 := rfl
theorem k139f (b : Bool) (a1 a2 : Int) (nx ny : Nat) (lx ly : List Nat) : ∃ σ1, exI TT (FI.of Try.f139 (TT.an 139)) [.code b139] (paramsE 0 [.agg [.bool b, .lst nx (dgs .i64 lx), .lst ny (dgs .i64 ly), .bool true, .int .i64 a1, .int .i64 a2]]) ⟨[], 0⟩ = some (.agg [.bool b, .lst nx (dgs .i64 lx), .lst ny (dgs .i64 ly), .bool true, .int .i64 a1, .int .i64 a2], σ1) := by
  refine ex1 ?_
  rw [fi139]
  simp only [b139, Try.f139, Option.getD, fstC, sndC, bodyC, thnC, elsC]
  simp (maxSteps := 1000000) (disch := omega) [eK139_0_0, cellsAt, getCells, takeN, dropN, fieldAddrA, allOne, AV.one, n_push, storeCellsA, putN, overN, St.push, St.get, St.set, hget, hset, blt_dec, buildA, sizesOf, fillA, putCells, List.take_succ_cons, List.take_zero, List.drop_succ_cons, List.drop_zero, List.nil_append, List.cons_append, List.length_cons, List.length_nil, eqvs_dgs]
theorem k139b (b : Bool) (a1 a2 : Int) (nx ny : Nat) (lx ly : List Nat) : exI TT (FI.of Try.f139 (TT.an 139)) [.code b139] (paramsE 0 [.agg [.bool b, .lst nx (dgs .i64 lx), .lst ny (dgs .i64 ly), .bool false, .int .i64 a1, .int .i64 a2]]) ⟨[], 0⟩ = exI TT (FI.of Try.f139 (TT.an 139)) K139_0 [(1, .ptr 0 0), (2, .ptr 1 0), (3, .lst nx (dgs .i64 lx)), (4, .lst ny (dgs .i64 ly))] ⟨[(1, ⟨[.bool false, .nilS, .nilS, .bool false, .int .i64 0, .int .i64 0], 6, false⟩), (0, ⟨[.bool b, .lst nx (dgs .i64 lx), .lst ny (dgs .i64 ly), .bool false, .int .i64 a1, .int .i64 a2], 6, false⟩)], 2⟩ := by
  rw [fi139]
  simp only [b139, Try.f139, Option.getD, fstC, sndC, bodyC, thnC, elsC]
  simp (maxSteps := 1000000) (disch := omega) [eK139_0_0, cellsAt, getCells, takeN, dropN, fieldAddrA, allOne, AV.one, n_push, storeCellsA, putN, overN, St.push, St.get, St.set, hget, hset, blt_dec, buildA, sizesOf, fillA, putCells, List.take_succ_cons, List.take_zero, List.drop_succ_cons, List.drop_zero, List.nil_append, List.cons_append, List.length_cons, List.length_nil, eqvs_dgs]
  rfl
theorem k139s (p1 p2 : AV) (nx ny nr : Nat) (lx ly lr : List Nat) (q : AV) (σ : St) (hy : 0 < ny) (c1 : ∀ σ, callI TT 177 [.lst nx (dgs .i64 lx), .lst ny (dgs .i64 ly)] σ = some (.tup [q, .lst nr (dgs .i64 lr)], σ)) : exI TT (FI.of Try.f139 (TT.an 139)) K139_0 [(1, p1), (2, p2), (3, .lst nx (dgs .i64 lx)), (4, .lst ny (dgs .i64 ly))] σ = exI TT (FI.of Try.f139 (TT.an 139)) K139_0 [(1, p1), (2, p2), (3, .lst ny (dgs .i64 ly)), (4, .lst nr (dgs .i64 lr))] σ := by
  have hy0 : (0 : Int) < (ny : Int) := by omega
  rw [fi139]
  conv => lhs; rw [xl139_0]
  simp only [B139_0, b139, Try.f139, Option.getD, fstC, sndC, bodyC, thnC, elsC]
  simp (maxSteps := 1000000) (disch := omega) [eK139_0_0, c1]
set_option maxHeartbeats 8000000 in
theorem k139e (b : Bool) (a1 a2 : Int) (nx ny ng nt ns : Nat) (lx ly lg lt ls : List Nat) (r1 r2 : AV) (c1 : ∀ σ, callI TT 177 [.lst nx (dgs .i64 lx), .lst ng (dgs .i64 lg)] σ = some (.tup [.lst nt (dgs .i64 lt), r1], σ)) (c2 : ∀ σ, callI TT 177 [.lst ny (dgs .i64 ly), .lst ng (dgs .i64 lg)] σ = some (.tup [.lst ns (dgs .i64 ls), r2], σ)) : ∃ σ1, exI TT (FI.of Try.f139 (TT.an 139)) K139_0 [(1, .ptr 0 0), (2, .ptr 1 0), (3, .lst ng (dgs .i64 lg)), (4, .lst 0 (dgs .i64 []))] ⟨[(1, ⟨[.bool false, .nilS, .nilS, .bool false, .int .i64 0, .int .i64 0], 6, false⟩), (0, ⟨[.bool b, .lst nx (dgs .i64 lx), .lst ny (dgs .i64 ly), .bool false, .int .i64 a1, .int .i64 a2], 6, false⟩)], 2⟩ = some (.agg [.bool b, .lst nt (dgs .i64 lt), .lst ns (dgs .i64 ls), .bool false, .int .i64 0, .int .i64 0], σ1) := by
  refine ex1 ?_
  rw [fi139, xl139_0]
  simp only [B139_0, b139, Try.f139, Option.getD, fstC, sndC, bodyC, thnC, elsC]
  simp (maxSteps := 1000000) (disch := omega) [eK139_0_0, cellsAt, getCells, takeN, dropN, fieldAddrA, allOne, AV.one, n_push, storeCellsA, putN, overN, St.push, St.get, St.set, hget, hset, blt_dec, buildA, sizesOf, fillA, putCells, List.take_succ_cons, List.take_zero, List.drop_succ_cons, List.drop_zero, List.nil_append, List.cons_append, List.length_cons, List.length_nil, eqvs_dgs]
  simp only [R139_0_0, b139, Try.f139, Option.getD, fstC, sndC, bodyC, thnC, elsC]
  simp (maxSteps := 1000000) (disch := omega) [eK139_0_0, cellsAt, getCells, takeN, dropN, fieldAddrA, allOne, AV.one, n_push, storeCellsA, putN, overN, St.push, St.get, St.set, hget, hset, blt_dec, buildA, sizesOf, fillA, putCells, List.take_succ_cons, List.take_zero, List.drop_succ_cons, List.drop_zero, List.nil_append, List.cons_append, List.length_cons, List.length_nil, eqvs_dgs, c1, c2]

theorem k75f (b : Bool) (a1 a2 : Int) (nx ny : Nat) (lx ly : List Nat) : ∃ σ1, exI TT (FI.of Try.f75 (TT.an 75)) [.code (Try.f75.body.getD .skip)] (paramsE 0 [.agg [.bool b, .lst nx (dgs .i64 lx), .lst ny (dgs .i64 ly), .bool true, .int .i64 a1, .int .i64 a2]]) ⟨[], 0⟩ = some (.tup [.agg [.int .i64 a1, .int .i64 a2], .bool true], σ1) := by
  refine ex1 ?_
  rw [fi75]
  simp only [Try.f75, Option.getD]
  simp (maxSteps := 1000000) (disch := omega) [cellsAt, getCells, takeN, dropN, fieldAddrA, allOne, AV.one, n_push, storeCellsA, putN, overN, St.push, St.get, St.set, hget, hset, blt_dec, buildA, sizesOf, fillA, putCells, List.take_succ_cons, List.take_zero, List.drop_succ_cons, List.drop_zero, List.nil_append, List.cons_append, List.length_cons, List.length_nil, eqvs_dgs]
set_option maxHeartbeats 8000000 in
theorem k75 (b b' f' : Bool) (a1 a2 a3 a4 z1 z2 : Int) (nx ny nu nv : Nat) (lx ly lu lv : List Nat) (o1 o2 : Bool) (c1 : ∀ σ, callI TT 139 [.agg [.bool b, .lst nx (dgs .i64 lx), .lst ny (dgs .i64 ly), .bool false, .int .i64 a1, .int .i64 a2]] σ = some (.agg [.bool b', .lst nu (dgs .i64 lu), .lst nv (dgs .i64 lv), .bool f', .int .i64 a3, .int .i64 a4], σ)) (c2 : ∀ σ, callI TT 140 [.lst nu (dgs .i64 lu)] σ = some (.tup [.int .i64 z1, .bool o1], σ)) (c3 : ∀ σ, callI TT 140 [.lst nv (dgs .i64 lv)] σ = some (.tup [.int .i64 z2, .bool o2], σ)) (hw : o1 = true → wrapA .i64 (-z1) = -z1) :
    ∃ σ1, exI TT (FI.of Try.f75 (TT.an 75)) [.code (Try.f75.body.getD .skip)] (paramsE 0 [.agg [.bool b, .lst nx (dgs .i64 lx), .lst ny (dgs .i64 ly), .bool false, .int .i64 a1, .int .i64 a2]]) ⟨[], 0⟩ = some (if (o1 && o2) = true then .tup [.agg [.int .i64 (if b' = true then -z1 else z1), .int .i64 z2], .bool true] else .tup [.agg [.int .i64 0, .int .i64 0], .bool false], σ1) := by
  refine ex1 ?_
  rw [fi75]
  simp only [Try.f75, Option.getD]
  cases o1 with
  | false =>
    simp (maxSteps := 1000000) (disch := omega) [cellsAt, getCells, takeN, dropN, fieldAddrA, allOne, AV.one, n_push, storeCellsA, putN, overN, St.push, St.get, St.set, hget, hset, blt_dec, buildA, sizesOf, fillA, putCells, List.take_succ_cons, List.take_zero, List.drop_succ_cons, List.drop_zero, List.nil_append, List.cons_append, List.length_cons, List.length_nil, eqvs_dgs, c1, c2, c3]
  | true =>
    have hw := hw rfl
    cases o2 with
    | false =>
      simp (maxSteps := 1000000) (disch := omega) [cellsAt, getCells, takeN, dropN, fieldAddrA, allOne, AV.one, n_push, storeCellsA, putN, overN, St.push, St.get, St.set, hget, hset, blt_dec, buildA, sizesOf, fillA, putCells, List.take_succ_cons, List.take_zero, List.drop_succ_cons, List.drop_zero, List.nil_append, List.cons_append, List.length_cons, List.length_nil, eqvs_dgs, c1, c2, c3]
    | true =>
      cases b' <;>
        simp (maxSteps := 1000000) (disch := omega) [cellsAt, getCells, takeN, dropN, fieldAddrA, allOne, AV.one, n_push, storeCellsA, putN, overN, St.push, St.get, St.set, hget, hset, blt_dec, buildA, sizesOf, fillA, putCells, List.take_succ_cons, List.take_zero, List.drop_succ_cons, List.drop_zero, List.nil_append, List.cons_append, List.length_cons, List.length_nil, eqvs_dgs, c1, c2, c3, hw]

theorem len30 {k n : Nat} (h : n < 2 ^ k) (hk : k ≤ 250000000) : (dg 1073741824 n).length < 9000000 := by
  have h1 : n < 1073741824 ^ (k / 30 + 1) := by
    have e : (1073741824 : Nat) ^ (k / 30 + 1) = 2 ^ (30 * (k / 30 + 1)) := by rw [Nat.pow_mul]
    rw [e]
    exact Nat.lt_of_lt_of_le h (Nat.pow_le_pow_right (by decide) (by omega))
  have := dg_len_le (B := 1073741824) (by decide) h1
  omega
/-- A fraction of the reference: a valid one, or one of any size. -/
inductive Wd where
  | f (n d : Int)
  | w (b : Bool) (n d : Nat)
def Wd.neg : Wd → Bool
  | .f n _ => decide (n < 0)
  | .w b _ _ => b
def Wd.n : Wd → Nat
  | .f n _ => n.natAbs
  | .w _ n _ => n
def Wd.d : Wd → Nat
  | .f _ d => d.toNat
  | .w _ _ d => d
def Wd.fine : Wd → Bool
  | .f _ _ => true
  | .w _ _ _ => false
def Wd.fn : Wd → Int
  | .f n _ => n
  | .w _ _ _ => 0
def Wd.fd : Wd → Int
  | .f _ d => d
  | .w _ _ _ => 0
def WC (v : Wd) : List AV := [.bool v.neg, SB v.n, SB v.d, .bool v.fine, .int .i64 v.fn, .int .i64 v.fd]
def WA (v : Wd) : AV := .agg (WC v)
/-- Its value. -/
def Wd.q (v : Wd) : Rat := mkRat (sg v.neg v.n) v.d
def Wd.ok (k : Nat) : Wd → Prop
  | .f n d => vfr n d = true ∧ 60 ≤ k
  | .w _ n d => 0 < d ∧ n < 2 ^ k ∧ d < 2 ^ k
theorem Wd.q_f (n d : Int) : (Wd.f n d).q = mkRat n d.toNat := by
  show mkRat (sg (decide (n < 0)) n.natAbs) d.toNat = _
  rw [sg_of]
theorem Wd.ok.b {k : Nat} {v : Wd} (h : v.ok k) : 0 < v.d ∧ v.n < 2 ^ k ∧ v.d < 2 ^ k := by
  cases v with
  | w b n d => exact h
  | f n d =>
    obtain ⟨h1, h2⟩ := h
    obtain ⟨a1, a2, a3, a4⟩ := vfr_b h1
    have hp : (2 : Nat) ^ 60 ≤ 2 ^ k := Nat.pow_le_pow_right (by decide) h2
    have h60 : (1000000000000000000 : Nat) < 2 ^ 60 := by decide
    simp only [Wd.d, Wd.n]
    omega
theorem Wd.ok.mono {a b : Nat} {v : Wd} (h : v.ok a) (hab : a ≤ b) : v.ok b := by
  cases v with
  | f n d => exact ⟨h.1, Nat.le_trans h.2 hab⟩
  | w c n d => exact ⟨h.1, Nat.lt_of_lt_of_le h.2.1 (Nat.pow_le_pow_right (by decide) hab), Nat.lt_of_lt_of_le h.2.2 (Nat.pow_le_pow_right (by decide) hab)⟩
def wgen (v w : Wd) : Wd :=
  if v.neg = w.neg then .w v.neg (v.n * w.d + w.n * v.d) (v.d * w.d)
  else if v.n * w.d < w.n * v.d then .w w.neg (w.n * v.d - v.n * w.d) (v.d * w.d)
  else .w v.neg (v.n * w.d - w.n * v.d) (v.d * w.d)
def wadd : Wd → Wd → Wd
  | .f a b, .f c d => if fits (mkRat a b.toNat + mkRat c d.toNat) = true then .f (mkRat a b.toNat + mkRat c d.toNat).num (mkRat a b.toNat + mkRat c d.toNat).den else wgen (.f a b) (.f c d)
  | .f a b, .w c n d => wgen (.f a b) (.w c n d)
  | .w c n d, v => wgen (.w c n d) v
def wmgen (v w : Wd) : Wd := .w (v.neg != w.neg) (v.n * w.n) (v.d * w.d)
def wmul : Wd → Wd → Wd
  | .f a b, .f c d => if fits (mkRat a b.toNat * mkRat c d.toNat) = true then .f (mkRat a b.toNat * mkRat c d.toNat).num (mkRat a b.toNat * mkRat c d.toNat).den else wmgen (.f a b) (.f c d)
  | .f a b, .w c n d => wmgen (.f a b) (.w c n d)
  | .w c n d, v => wmgen (.w c n d) v
def wlow : Wd → Wd
  | .f a b => .f a b
  | .w c n d => .w c (n / Nat.gcd n d) (d / Nat.gcd n d)
theorem wgen_q {k j : Nat} {v w : Wd} (hv : v.ok k) (hw : w.ok j) : (wgen v w).q = v.q + w.q ∧ (wgen v w).ok (k + j + 1) := by
  obtain ⟨v1, v2, v3⟩ := hv.b
  obtain ⟨w1, w2, w3⟩ := hw.b
  have e1 := mul_bd v2 w3
  have e2 := mul_bd w2 v3
  have e3 := mul_bd v3 w3
  rw [Nat.add_comm j k] at e2
  have e4 : 2 ^ (k + j + 1) = 2 * 2 ^ (k + j) := by rw [Nat.pow_succ, Nat.mul_comm]
  have hp := Nat.mul_pos v1 w1
  have hs : ∀ (b : Bool) (n d : Nat), sg b n * (d : Int) = sg b (n * d) := fun b n d => by
    have := sg_mul b false n d
    rw [show sg false d = (d : Int) from rfl] at this
    rw [this]; cases b <;> rfl
  have hq : v.q + w.q = mkRat (sg v.neg (v.n * w.d) + sg w.neg (w.n * v.d)) (v.d * w.d) := by
    rw [Wd.q, Wd.q, Rat.mkRat_add_mkRat _ _ (by omega) (by omega), hs, hs]
  rw [hq]
  unfold wgen
  by_cases h : v.neg = w.neg
  · rw [if_pos h]
    refine ⟨?_, hp, by omega, by omega⟩
    show mkRat (sg v.neg _) _ = _
    rw [← h, sg_add_same]; rfl
  · rw [if_neg h]
    by_cases hl : v.n * w.d < w.n * v.d
    · rw [if_pos hl]
      refine ⟨?_, hp, by omega, by omega⟩
      rw [sg_add_lt h hl]; rfl
    · rw [if_neg hl]
      refine ⟨?_, hp, by omega, by omega⟩
      rw [sg_add_ge h (by omega)]; rfl
theorem f_of {q : Rat} (h : fits q = true) : (Wd.f q.num q.den).q = q ∧ ∀ k, 60 ≤ k → (Wd.f q.num q.den).ok k := by
  refine ⟨?_, fun k hk => ⟨vfr_of h, hk⟩⟩
  rw [Wd.q_f, Int.toNat_natCast, Rat.mkRat_self]
theorem wadd_q {k j : Nat} {v w : Wd} (hv : v.ok k) (hw : w.ok j) : (wadd v w).q = v.q + w.q ∧ (wadd v w).ok (k + j + 1) := by
  have hg := wgen_q hv hw
  cases v with
  | w c n d => exact hg
  | f a b => cases w with
    | w c n d => exact hg
    | f c d =>
      simp only [wadd]
      split
      · rename_i hf
        obtain ⟨h1, h2⟩ := f_of hf
        exact ⟨by rw [h1, Wd.q_f, Wd.q_f], h2 _ (by have := hv.2; omega)⟩
      · exact hg
theorem wmgen_q {k j : Nat} {v w : Wd} (hv : v.ok k) (hw : w.ok j) : (wmgen v w).q = v.q * w.q ∧ (wmgen v w).ok (k + j) := by
  obtain ⟨v1, v2, v3⟩ := hv.b
  obtain ⟨w1, w2, w3⟩ := hw.b
  refine ⟨?_, Nat.mul_pos v1 w1, mul_bd v2 w2, mul_bd v3 w3⟩
  have e : v.q * w.q = mkRat (sg v.neg v.n * sg w.neg w.n) (v.d * w.d) := by
    rw [Wd.q, Wd.q, Rat.mkRat_mul_mkRat]
  rw [e, sg_mul]
  rfl
theorem wmul_q {k j : Nat} {v w : Wd} (hv : v.ok k) (hw : w.ok j) : (wmul v w).q = v.q * w.q ∧ (wmul v w).ok (k + j) := by
  have hg := wmgen_q hv hw
  cases v with
  | w c n d => exact hg
  | f a b => cases w with
    | w c n d => exact hg
    | f c d =>
      simp only [wmul]
      split
      · rename_i hf
        obtain ⟨h1, h2⟩ := f_of hf
        exact ⟨by rw [h1, Wd.q_f, Wd.q_f], h2 _ (by have := hv.2; omega)⟩
      · exact hg
theorem wlow_q {k : Nat} {v : Wd} (hv : v.ok k) : (wlow v).q = v.q ∧ (wlow v).ok k := by
  cases v with
  | f a b => exact ⟨rfl, hv⟩
  | w c n d =>
    obtain ⟨h1, h2, h3⟩ := hv
    have hg : 0 < Nat.gcd n d := Nat.gcd_pos_of_pos_right n h1
    have hd : d / Nat.gcd n d * Nat.gcd n d = d := Nat.div_mul_cancel (Nat.gcd_dvd_right _ _)
    have hn : n / Nat.gcd n d * Nat.gcd n d = n := Nat.div_mul_cancel (Nat.gcd_dvd_left _ _)
    refine ⟨?_, Nat.pos_of_ne_zero fun h => by rw [h, Nat.zero_mul] at hd; omega, Nat.lt_of_le_of_lt (Nat.div_le_self _ _) h2, Nat.lt_of_le_of_lt (Nat.div_le_self _ _) h3⟩
    show mkRat (sg c (n / Nat.gcd n d)) (d / Nat.gcd n d) = mkRat (sg c n) d
    rw [← Rat.mkRat_mul_right (n := sg c (n / Nat.gcd n d)) (a := Nat.gcd n d) (by omega), hd]
    congr 1
    have := sg_mul c false (n / Nat.gcd n d) (Nat.gcd n d)
    rw [show sg false (Nat.gcd n d) = ((Nat.gcd n d : Nat) : Int) from rfl, hn] at this
    rw [this]; cases c <;> rfl
/-! ### Contracts -/
theorem r82 {n d : Int} (h : vfr n d = true) : FnF TT 82 [.agg [.int .i64 n, .int .i64 d]] (WA (.f n d)) := by
  obtain ⟨a1, a2, a3, a4⟩ := vfr_b h
  have hd : d = ((d.toNat : Nat) : Int) := by omega
  exact FnF.mkv fn82 rfl md82 (k82 n d n.natAbs _ _ _ _ _ (ileb_neg n) (wrapA_id (by omega) (by omega)) (fun σ => v134a n σ _ rfl) (fun σ => (v145 n.natAbs (by omega)).pure σ rfl rfl) (fun σ => by
    have := (v145 d.toNat (by omega)).pure σ rfl rfl
    rw [← hd] at this; exact this)) (fun _ => rfl)
theorem frA_t {q : Rat} (h : fits q = true) : frA q = .tup [.agg [.int .i64 q.num, .int .i64 q.den], .bool true] := by rw [frA, if_pos h]
theorem frA_f {q : Rat} (h : ¬ fits q = true) : frA q = .tup [.agg [.int .i64 0, .int .i64 0], .bool false] := by rw [frA, if_neg h]
theorem g141 {k : Nat} {v w : Wd} (hv : v.ok k) (hw : w.ok k) (hk : k ≤ 100000000) (hf : v.fine = true → w.fine = true → ∀ σ, callI TT 103 [.agg [.int .i64 v.fn, .int .i64 v.fd], .agg [.int .i64 w.fn, .int .i64 w.fd]] σ = some (.tup [.agg [.int .i64 0, .int .i64 0], .bool false], σ)) : FnF TT 141 [WA v, WA w] (WA (wgen v w)) := by
  obtain ⟨v1, v2, v3⟩ := hv.b
  obtain ⟨w1, w2, w3⟩ := hw.b
  have l1 := len30 v2 (by omega)
  have l2 := len30 v3 (by omega)
  have l3 := len30 w2 (by omega)
  have l4 := len30 w3 (by omega)
  have L1 := len30 (mul_bd v2 w3) (by omega)
  have L2 := len30 (mul_bd w2 v3) (by omega)
  have c1 := fun σ : St => (v144 v.n w.d (by omega) (by omega)).pure σ rfl rfl
  have c2 := fun σ : St => (v144 w.n v.d (by omega) (by omega)).pure σ rfl rfl
  have c3 := fun σ : St => (v144 v.d w.d (by omega) (by omega)).pure σ rfl rfl
  unfold wgen
  by_cases h : v.neg = w.neg
  · rw [if_pos h]
    exact FnF.mkv fn141 rfl md141 (k141s v.fine w.fine v.neg w.neg v.fn v.fd w.fn w.fd _ _ _ _ _ _ _ _ _ _ _ _ _ _ _ _ hf c1 c2 c3 h (fun σ => (v179 (v.n * w.d) (w.n * v.d) (by omega) (by omega)).pure σ rfl rfl)) (fun _ => rfl)
  · rw [if_neg h]
    have c5 := fun σ : St => v178 (v.n * w.d) (w.n * v.d) (by omega) (by omega) σ [SB (v.n * w.d), SB (w.n * v.d)] rfl
    by_cases hl : v.n * w.d < w.n * v.d
    · rw [if_pos hl]
      exact FnF.mkv fn141 rfl md141 (k141l v.fine w.fine v.neg w.neg v.fn v.fd w.fn w.fd _ _ _ _ _ _ _ _ _ _ _ _ _ _ _ _ _ hf c1 c2 c3 h c5 (by unfold cmpN; rw [if_pos hl]; decide) (fun σ => (v180 (w.n * v.d) (v.n * w.d) (by omega) (by omega)).pure σ rfl rfl)) (fun _ => rfl)
    · rw [if_neg hl]
      exact FnF.mkv fn141 rfl md141 (k141g v.fine w.fine v.neg w.neg v.fn v.fd w.fn w.fd _ _ _ _ _ _ _ _ _ _ _ _ _ _ _ _ _ hf c1 c2 c3 h c5 (by unfold cmpN; rw [if_neg hl]; split <;> decide) (fun σ => (v180 (v.n * w.d) (w.n * v.d) (by omega) (by omega)).pure σ rfl rfl)) (fun _ => rfl)
theorem r141 {k : Nat} {v w : Wd} (hv : v.ok k) (hw : w.ok k) (hk : k ≤ 100000000) : FnF TT 141 [WA v, WA w] (WA (wadd v w)) := by
  cases v with
  | w c n d => exact g141 hv hw hk (fun h => by cases h)
  | f a b => cases w with
    | w c n d => exact g141 hv hw hk (fun _ h => by cases h)
    | f c d =>
      have h1 := v103 hv.1 hw.1
      simp only [wadd]
      by_cases hf : fits (mkRat a b.toNat + mkRat c d.toNat) = true
      · rw [if_pos hf]
        rw [frA_t hf] at h1
        have h2 := r82 (vfr_of hf)
        exact FnF.mkv fn141 rfl md141 (k141f _ _ _ a b c d _ _ _ _ _ _ _ _ _ _ _ _ _ _ _ _ (fun σ => h1 σ _ rfl) (fun σ => h2.pure σ rfl rfl)) (fun _ => rfl)
      · rw [if_neg hf]
        rw [frA_f hf] at h1
        exact g141 hv hw hk (fun _ _ σ => h1 σ _ rfl)
theorem g81 {k : Nat} {v w : Wd} (hv : v.ok k) (hw : w.ok k) (hk : k ≤ 100000000) (hf : v.fine = true → w.fine = true → ∀ σ, callI TT 105 [.agg [.int .i64 v.fn, .int .i64 v.fd], .agg [.int .i64 w.fn, .int .i64 w.fd]] σ = some (.tup [.agg [.int .i64 0, .int .i64 0], .bool false], σ)) : FnF TT 81 [WA v, WA w] (WA (wmgen v w)) := by
  obtain ⟨v1, v2, v3⟩ := hv.b
  obtain ⟨w1, w2, w3⟩ := hw.b
  have l1 := len30 v2 (by omega)
  have l2 := len30 v3 (by omega)
  have l3 := len30 w2 (by omega)
  have l4 := len30 w3 (by omega)
  exact FnF.mkv fn81 rfl md81 (k81 v.fine w.fine v.neg w.neg v.fn v.fd w.fn w.fd _ _ _ _ _ _ _ _ _ _ _ _ hf (fun σ => (v144 v.n w.n (by omega) (by omega)).pure σ rfl rfl) (fun σ => (v144 v.d w.d (by omega) (by omega)).pure σ rfl rfl)) (fun _ => rfl)
theorem r81 {k : Nat} {v w : Wd} (hv : v.ok k) (hw : w.ok k) (hk : k ≤ 100000000) : FnF TT 81 [WA v, WA w] (WA (wmul v w)) := by
  cases v with
  | w c n d => exact g81 hv hw hk (fun h => by cases h)
  | f a b => cases w with
    | w c n d => exact g81 hv hw hk (fun _ h => by cases h)
    | f c d =>
      have h1 := v105 hv.1 hw.1
      simp only [wmul]
      by_cases hf : fits (mkRat a b.toNat * mkRat c d.toNat) = true
      · rw [if_pos hf]
        rw [frA_t hf] at h1
        have h2 := r82 (vfr_of hf)
        exact FnF.mkv fn81 rfl md81 (k81f _ _ _ a b c d _ _ _ _ _ _ _ _ _ _ _ _ _ _ _ _ (fun σ => h1 σ _ rfl) (fun σ => h2.pure σ rfl rfl)) (fun _ => rfl)
      · rw [if_neg hf]
        rw [frA_f hf] at h1
        exact g81 hv hw hk (fun _ _ σ => h1 σ _ rfl)
theorem l139 (p1 p2 : AV) (σ : St) : ∀ (b a : Nat), (dg 1073741824 a).length < 9000000 → (dg 1073741824 b).length < 9000000 → exI TT (FI.of Try.f139 (TT.an 139)) K139_0 [(1, p1), (2, p2), (3, SB a), (4, SB b)] σ = exI TT (FI.of Try.f139 (TT.an 139)) K139_0 [(1, p1), (2, p2), (3, SB (Nat.gcd a b)), (4, .lst 0 (dgs .i64 []))] σ := by
  intro b
  induction b using Nat.strongRecOn with
  | ind b ih =>
    intro a ha hb
    rcases Nat.eq_zero_or_pos b with rfl | hpos
    · rw [Nat.gcd_zero_right]; rfl
    · have hl : (dg 1073741824 (a % b)).length < 9000000 := Nat.lt_of_le_of_lt (dg_mono (by decide) (Nat.le_of_lt (Nat.mod_lt _ hpos))) hb
      have h := ih (a % b) (Nat.mod_lt _ hpos) b hb hl
      rw [gcd_step a b hpos, ← h]
      exact k139s p1 p2 _ _ _ _ _ _ (SB (a / b)) σ ((dg_len_pos (by decide)).2 hpos) (fun σ => (v177 a b hpos (by omega) (by omega)).pure σ rfl rfl)
theorem r139 {k : Nat} {v : Wd} (hv : v.ok k) (hk : k ≤ 250000000) : FnF TT 139 [WA v] (WA (wlow v)) := by
  cases v with
  | f a b => exact FnF.mkv (c := b139) fn139 rfl md139 (k139f _ _ _ _ _ _ _) (fun _ => rfl)
  | w c n d =>
    obtain ⟨h1, h2, h3⟩ := hv
    have l1 := len30 h2 hk
    have l2 := len30 h3 hk
    have hg : 0 < Nat.gcd n d := Nat.gcd_pos_of_pos_right n h1
    have hgd : Nat.gcd n d ≤ d := Nat.le_of_dvd h1 (Nat.gcd_dvd_right n d)
    have lg : (dg 1073741824 (Nat.gcd n d)).length < 9000000 := Nat.lt_of_le_of_lt (dg_mono (by decide) hgd) l2
    obtain ⟨σ1, he⟩ := k139e c 0 0 _ _ _ _ _ _ _ _ _ _ _ _ (fun σ => (v177 n (Nat.gcd n d) hg (by omega) (by omega)).pure σ rfl rfl) (fun σ => (v177 d (Nat.gcd n d) hg (by omega) (by omega)).pure σ rfl rfl)
    refine FnF.mkv (c := b139) fn139 rfl md139 ⟨σ1, ?_⟩ (fun _ => rfl)
    refine (k139b c 0 0 _ _ _ _).trans ?_
    exact (l139 _ _ _ d n l1 l2).trans he
theorem r75 {k : Nat} {v : Wd} (hv : v.ok k) (hk : k ≤ 250000000) : FnV TT 75 [WA v] (frA v.q) := by
  cases v with
  | f a b =>
    obtain ⟨p1, p2, p3⟩ := vfr_rat hv.1
    have e : frA (Wd.f a b).q = .tup [.agg [.int .i64 a, .int .i64 b], .bool true] := by rw [Wd.q_f, frA_t p3, p1, p2]
    rw [e]
    exact FnV.mk fn75 rfl md75 (k75f _ _ _ _ _ _ _) (fun _ => rfl) rfl
  | w c n d =>
    have hlow := r139 hv hk
    obtain ⟨h1, h2, h3⟩ := hv
    obtain ⟨e1, e2, e3⟩ := low_num c n d (by omega)
    have l1 : (dg 1073741824 (n / Nat.gcd n d)).length < 9000000 := Nat.lt_of_le_of_lt (dg_mono (by decide) (Nat.div_le_self _ _)) (len30 h2 hk)
    have l2 : (dg 1073741824 (d / Nat.gcd n d)).length < 9000000 := Nat.lt_of_le_of_lt (dg_mono (by decide) (Nat.div_le_self _ _)) (len30 h3 hk)
    have s1 := v140 (n / Nat.gcd n d) (by omega)
    have s2 := v140 (d / Nat.gcd n d) (by omega)
    have hq : (Wd.w c n d).q = mkRat (sg c n) d := rfl
    rw [hq]
    have hif : ∀ x : Nat, (if x ≤ 1000000000000000000 then AV.tup [.int .i64 x, .bool true] else .tup [.int .i64 0, .bool false]) = .tup [.int .i64 (if x ≤ 1000000000000000000 then (x : Int) else 0), .bool (decide (x ≤ 1000000000000000000))] := fun x => by
      split
      · rename_i h; rw [decide_eq_true h]
      · rename_i h; rw [decide_eq_false h]
    rw [hif] at s1 s2
    have hk2 := k75 c c false 0 0 0 0 _ _ _ _ _ _ _ _ _ _ _ _ (fun σ => hlow.pure σ rfl rfl) (fun σ => s1 σ _ rfl) (fun σ => s2 σ _ rfl) (fun h => by rw [if_pos (of_decide_eq_true h)]; have := of_decide_eq_true h; exact wrapA_id (by omega) (by omega))
    have e : (if (decide (n / Nat.gcd n d ≤ 1000000000000000000) && decide (d / Nat.gcd n d ≤ 1000000000000000000)) = true then AV.tup [.agg [.int .i64 (if c = true then -(if n / Nat.gcd n d ≤ 1000000000000000000 then ((n / Nat.gcd n d : Nat) : Int) else 0) else (if n / Nat.gcd n d ≤ 1000000000000000000 then ((n / Nat.gcd n d : Nat) : Int) else 0)), .int .i64 (if d / Nat.gcd n d ≤ 1000000000000000000 then ((d / Nat.gcd n d : Nat) : Int) else 0)], .bool true] else .tup [.agg [.int .i64 0, .int .i64 0], .bool false]) = frA (mkRat (sg c n) d) := by
      by_cases hf : fits (mkRat (sg c n) d) = true
      · obtain ⟨f1, f2⟩ := fits_iff.1 hf
        rw [nm, e1] at f1
        rw [e2] at f2
        rw [frA_t hf, if_pos (by simp [f1, f2]), if_pos f1, if_pos f2, e3, e2]
        rfl
      · have hn : ¬ (decide (n / Nat.gcd n d ≤ 1000000000000000000) && decide (d / Nat.gcd n d ≤ 1000000000000000000)) = true := by
          intro hh
          simp only [Bool.and_eq_true, decide_eq_true_eq] at hh
          exact hf (fits_iff.2 ⟨by rw [nm, e1]; exact hh.1, by rw [e2]; exact hh.2⟩)
        rw [frA_f hf, if_neg hn]
    rw [e] at hk2
    exact FnV.mk fn75 rfl md75 hk2 (fun σ => by unfold frA; split <;> rfl) (by unfold frA; split <;> rfl)
/-! ### Sums -/
def wsum (ws : List Wd) : Wd := ws.foldl (fun s w => wlow (wadd s w)) (.f 0 1)
theorem wsum_g {k : Nat} : ∀ (ws : List Wd) (s : Wd) (a : Nat), s.ok a → (∀ w ∈ ws, w.ok k) → (ws.foldl (fun s w => wlow (wadd s w)) s).q = ws.foldl (fun (x : Rat) w => x + w.q) s.q ∧ (ws.foldl (fun s w => wlow (wadd s w)) s).ok (a + ws.length * (k + 1)) := by
  intro ws
  induction ws with
  | nil => intro s a hs _; exact ⟨rfl, by simpa using hs⟩
  | cons w r ih =>
    intro s a hs hw
    obtain ⟨q1, o1⟩ := wadd_q hs (hw w (by simp))
    obtain ⟨q2, o2⟩ := wlow_q o1
    obtain ⟨q3, o3⟩ := ih (wlow (wadd s w)) _ o2 (fun x hx => hw x (by simp [hx]))
    refine ⟨by rw [List.foldl_cons, q3, List.foldl_cons, q2, q1], o3.mono ?_⟩
    rw [List.length_cons, Nat.add_mul]; omega
theorem zero_ok : (Wd.f 0 1).ok 60 := ⟨by decide, Nat.le_refl _⟩
theorem zero_q : (Wd.f 0 1).q = 0 := by rw [Wd.q_f]; rfl
theorem wsum_q {k : Nat} {ws : List Wd} (hw : ∀ w ∈ ws, w.ok k) : (wsum ws).q = ws.foldl (fun (x : Rat) w => x + w.q) 0 ∧ (wsum ws).ok (60 + ws.length * (k + 1)) := by
  have := wsum_g ws (.f 0 1) 60 zero_ok hw
  rw [zero_q] at this
  exact this
theorem WC_len (v : Wd) : (WC v).length = 6 := rfl
theorem WC_one (v : Wd) : allOne (WC v) = true := rfl
theorem WC_frz (σ : St) (d : Nat) (v : Wd) : mapO (frzV σ (d + 1)) (WC v) = some (WC v) := rfl
/-- A box with some cells. -/
def Bx (σ : St) (b : Nat) (vs : List AV) : Prop := (∃ n, σ.get b = some ⟨vs, n, false⟩) ∧ b < σ.n
theorem Bx.rd {σ : St} {b n : Nat} {vs : List AV} (h : Bx σ b vs) (hn : vs.length = n) : cellsAt σ (.ptr b 0) n = some vs := by
  obtain ⟨⟨m, h⟩, _⟩ := h
  simp only [cellsAt, h, getCells_eq]
  rw [if_pos (by omega), List.drop_zero, List.take_of_length_le (by omega)]
theorem Bx.st {σ : St} {b : Nat} {vs ws : List AV} (h : Bx σ b vs) (hl : ws.length = vs.length) (ho : allOne ws = true) : ∃ σ', storeCellsA σ b 0 ws = some σ' ∧ Bx σ' b ws ∧ But b σ σ' := by
  obtain ⟨⟨m, hg⟩, hlt⟩ := h
  refine ⟨σ.set b ⟨ws, m, false⟩, ?_, ⟨⟨m, get_set_eq hg⟩, hlt⟩, rfl, fun c hc => get_set_ne (fun e => hc e.symm)⟩
  rw [storeCellsA_eq, hg]
  simp only [putCells]
  rw [if_pos ⟨by omega, ho⟩, List.take_zero, List.nil_append, Nat.zero_add, List.drop_of_length_le (by omega), List.append_nil]
theorem Bx.old {σ σ' : St} {b : Nat} {vs : List AV} (h : Bx σ b vs) (k : Old σ σ') : Bx σ' b vs := by
  obtain ⟨⟨m, hg⟩, hlt⟩ := h
  exact ⟨⟨m, by rw [k.2 b hlt]; exact hg⟩, Nat.lt_of_lt_of_le hlt k.1⟩
theorem Bx.but {σ σ' : St} {b c : Nat} {vs : List AV} (h : Bx σ c vs) (hc : c ≠ b) (k : But b σ σ') : Bx σ' c vs := by
  obtain ⟨⟨m, hg⟩, hlt⟩ := h
  exact ⟨⟨m, by rw [k.2 c hc]; exact hg⟩, by rw [k.1]; exact hlt⟩
theorem Bx.push {σ : St} {vs : List AV} {m : Nat} : Bx (σ.push ⟨vs, m, false⟩) σ.n vs := ⟨⟨m, get_push_same⟩, Nat.lt_succ_self _⟩
theorem Bx.lt {σ : St} {b : Nat} {vs : List AV} (h : Bx σ b vs) : b < σ.n := h.2
/-- Rows of aggregates. -/
def flat {α : Type} (f : α → List AV) (l : List α) : List AV := l.flatMap f
theorem flat_len {α : Type} {f : α → List AV} {w : Nat} (hf : ∀ x, (f x).length = w) : ∀ l : List α, (flat f l).length = l.length * w
  | [] => by simp [flat]
  | x :: r => by
    have := flat_len hf r
    simp only [flat, List.flatMap_cons, List.length_append, List.length_cons] at this ⊢
    rw [this, hf, Nat.add_mul]; omega
theorem flat_get {α : Type} {f : α → List AV} {w : Nat} (hf : ∀ x, (f x).length = w) : ∀ (l : List α) (i : Nat) (x : α), l[i]? = some x → getCells (flat f l) (i * w) w = some (f x)
  | [], i, x, h => by simp at h
  | y :: r, 0, x, h => by
    simp at h; subst h
    rw [getCells_eq, flat, List.flatMap_cons, if_pos (by simp [hf]), Nat.zero_mul, List.drop_zero, List.take_left' (hf y)]
  | y :: r, i + 1, x, h => by
    have ih := flat_get hf r i x (by simpa using h)
    rw [getCells_eq] at ih ⊢
    split at ih
    · rename_i hl
      have e : (i + 1) * w = (f y).length + i * w := by rw [hf, Nat.add_mul]; omega
      simp only [flat, List.flatMap_cons, List.length_append] at hl ⊢
      rw [if_pos (by rw [e]; omega), e, ← List.drop_drop, List.drop_left]
      exact ih
    · cases ih
theorem mapO_app {α β : Type} {f : α → Option β} : ∀ {a : List α} {b : List α} {x y : List β}, mapO f a = some x → mapO f b = some y → mapO f (a ++ b) = some (x ++ y)
  | [], b, x, y, h1, h2 => by simp only [mapO] at h1; cases h1; exact h2
  | z :: r, b, x, y, h1, h2 => by
    simp only [mapO] at h1
    split at h1
    · rename_i u v hu hv
      cases h1
      exact mapO_cons hu (mapO_app hv h2)
    · cases h1
theorem flat_frz {α : Type} {f : α → List AV} {σ : St} {d : Nat} (hf : ∀ x, mapO (frzV σ d) (f x) = some (f x)) : ∀ l : List α, mapO (frzV σ d) (flat f l) = some (flat f l)
  | [] => rfl
  | x :: r => mapO_app (hf x) (flat_frz hf r)
theorem flat_app {α : Type} (f : α → List AV) (a b : List α) : flat f (a ++ b) = flat f a ++ flat f b := by simp [flat]
def WS (ws : List Wd) : AV := .lst ws.length (flat WC ws)

noncomputable def b83 : Code := Try.f83.body.getD .skip
noncomputable def B83_0 : Code := (bodyC (bodyC (sndC (fstC (sndC (sndC b83))))))
noncomputable def K83_0 : List It := .lp B83_0 :: .blk 0 :: .code (sndC (sndC (sndC b83))) :: []
theorem xl83_0 {fi : FI} {env : Env} {σ : St} : exI TT fi K83_0 env σ = exI TT fi (.code B83_0 :: K83_0) env σ := by unfold K83_0; exact xI_lp
noncomputable def R83_0_0 : List It := .code (sndC (sndC (sndC b83))) :: []
theorem eK83_0_0 : exitA 0 K83_0 = some R83_0_0 := rfl
theorem s83 (n i : Nat) (cells s w t u : List AV) (σ σ1 : St) (hi : i < n) (l1 : cellsAt σ (.ptr 1 0) 6 = some s) (r1 : cellsAt σ (.lp cells (i * 6)) 6 = some w) (c1 : callI TT 141 [.agg s, .agg w] σ = some (.agg t, σ)) (c2 : callI TT 139 [.agg t] σ = some (.agg u, σ)) (hu : u.length = 6) (s1 : storeCellsA σ 1 0 u = some σ1) (hw : wrapA .i64 ((i : Int) + 1) = (i : Int) + 1) :
    exI TT (FI.of Try.f83 (TT.an 83)) K83_0 [(0, .lst n cells), (2, .ptr 0 0), (3, .ptr 1 0), (4, .int .i64 i)] σ = exI TT (FI.of Try.f83 (TT.an 83)) K83_0 [(0, .lst n cells), (2, .ptr 0 0), (3, .ptr 1 0), (4, .int .i64 ((i : Int) + 1))] σ1 := by
  rw [fi83]
  conv => lhs; rw [xl83_0]
  simp only [B83_0, b83, Try.f83, Option.getD, fstC, sndC, bodyC, thnC, elsC]
  simp (maxSteps := 1000000) (disch := omega) [eK83_0_0, l1, r1, c1, c2, hu, s1, hw]
theorem e83 (n : Nat) (cells s : List AV) (σ σ1 : St) (l1 : cellsAt σ (.ptr 1 0) 6 = some s) (hs : s.length = 6) (s1 : storeCellsA σ 0 0 s = some σ1) (l2 : cellsAt σ1 (.ptr 0 0) 6 = some s) :
    exI TT (FI.of Try.f83 (TT.an 83)) K83_0 [(0, .lst n cells), (2, .ptr 0 0), (3, .ptr 1 0), (4, .int .i64 n)] σ = some (.agg s, σ1) := by
  rw [fi83, xl83_0]
  simp only [B83_0, b83, Try.f83, Option.getD, fstC, sndC, bodyC, thnC, elsC]
  simp (maxSteps := 1000000) (disch := omega) [eK83_0_0]
  simp only [R83_0_0, b83, Try.f83, Option.getD, fstC, sndC, bodyC, thnC, elsC]
  simp (maxSteps := 1000000) (disch := omega) [eK83_0_0, l1, hs, s1, l2]
theorem b83e (n : Nat) (cells z : List AV) (σ1 σ2 σ3 : St) (hz : z.length = 6) (h1 : (⟨[], 0⟩ : St).push ⟨[.bool false, .nilS, .nilS, .bool false, .int .i64 0, .int .i64 0], 6, false⟩ = σ1) (hn : σ1.n = 1) (c1 : callI TT 87 [] σ1 = some (.agg [.int .i64 0, .int .i64 1], σ1)) (c2 : callI TT 82 [.agg [.int .i64 0, .int .i64 1]] σ1 = some (.agg z, σ1)) (h2 : σ1.push ⟨[.bool false, .nilS, .nilS, .bool false, .int .i64 0, .int .i64 0], 6, false⟩ = σ2) (s1 : storeCellsA σ2 1 0 z = some σ3) :
    exI TT (FI.of Try.f83 (TT.an 83)) [.code b83] (paramsE 0 [.lst n cells]) ⟨[], 0⟩ = exI TT (FI.of Try.f83 (TT.an 83)) K83_0 [(0, .lst n cells), (2, .ptr 0 0), (3, .ptr 1 0), (4, .int .i64 0)] σ3 := by
  rw [fi83]
  simp only [b83, Try.f83, Option.getD, fstC, sndC, bodyC, thnC, elsC]
  simp (maxSteps := 1000000) (disch := omega) [eK83_0_0, h1, hn, c1, c2, h2, hz, s1]
  rfl
theorem l83 (ws : List Wd) {k : Nat} (hw : ∀ w ∈ ws, w.ok k) (hk : 60 + ws.length * (k + 1) + k ≤ 90000000) : ∀ (m i : Nat) (s : Wd) (σ : St), i + m = ws.length → s.ok (60 + i * (k + 1)) → Bx σ 1 (WC s) → (∃ z, Bx σ 0 z ∧ z.length = 6) →
    ∃ σ', exI TT (FI.of Try.f83 (TT.an 83)) K83_0 [(0, WS ws), (2, .ptr 0 0), (3, .ptr 1 0), (4, .int .i64 i)] σ = some (WA ((ws.drop i).foldl (fun s w => wlow (wadd s w)) s), σ') := by
  intro m
  induction m with
  | zero =>
    intro i s σ hi hs hb hz
    obtain rfl : i = ws.length := by omega
    obtain ⟨z, hz, hzl⟩ := hz
    obtain ⟨σ1, a1, a2, a3⟩ := hz.st (ws := WC s) (by rw [hzl]; rfl) (WC_one s)
    rw [List.drop_of_length_le (Nat.le_refl _)]
    exact ⟨σ1, e83 ws.length (flat WC ws) (WC s) σ σ1 (hb.rd rfl) rfl a1 (a2.rd rfl)⟩
  | succ m ih =>
    intro i s σ hi hs hb hz
    have hil : i < ws.length := by omega
    have hwi := hw _ (List.getElem_mem hil)
    have hmul : i * (k + 1) + (k + 1) ≤ ws.length * (k + 1) := by
      have := Nat.mul_le_mul_right (k + 1) (show i + 1 ≤ ws.length from hil)
      rw [Nat.add_mul, Nat.one_mul] at this; exact this
    have hll : ws.length ≤ ws.length * (k + 1) := Nat.le_mul_of_pos_right _ (by omega)
    have hm1 : s.ok (60 + i * (k + 1) + k) := hs.mono (Nat.le_add_right _ _)
    have hm2 : (ws[i]).ok (60 + i * (k + 1) + k) := hwi.mono (Nat.le_add_left _ _)
    have ca := r141 hm1 hm2 (by omega)
    obtain ⟨q1, o1⟩ := wadd_q hs hwi
    have cl := r139 o1 (by omega)
    obtain ⟨q2, o2⟩ := wlow_q o1
    obtain ⟨σ1, a1, a2, a3⟩ := hb.st (ws := WC (wlow (wadd s ws[i]))) rfl (WC_one _)
    obtain ⟨z, hz, hzl⟩ := hz
    obtain ⟨σ', k1⟩ := ih (i + 1) (wlow (wadd s ws[i])) σ1 (by omega) (o2.mono (by rw [Nat.add_mul]; omega)) a2 ⟨z, hz.but (by decide) a3, hzl⟩
    rw [List.drop_eq_getElem_cons hil, List.foldl_cons]
    refine ⟨σ', ?_⟩
    rw [← k1]
    have hi1 : ((i + 1 : Nat) : Int) = (i : Int) + 1 := by omega
    rw [hi1]
    have r1 : cellsAt σ (.lp (flat WC ws) (i * 6)) 6 = some (WC ws[i]) := flat_get WC_len ws i _ (List.getElem?_eq_getElem hil)
    exact s83 ws.length i (flat WC ws) (WC s) (WC ws[i]) (WC (wadd s ws[i])) (WC (wlow (wadd s ws[i]))) σ σ1 hil (hb.rd rfl) r1 (ca.pure σ rfl rfl) (cl.pure σ rfl rfl) rfl a1 (wrapA_id (by omega) (by omega))
theorem r83 (ws : List Wd) {k : Nat} (hw : ∀ w ∈ ws, w.ok k) (hk : 60 + ws.length * (k + 1) + k ≤ 90000000) : FnF TT 83 [WS ws] (WA (wsum ws)) := by
  have cz := fun σ : St => v87 σ [] rfl
  have co := fun σ : St => (r82 (n := 0) (d := 1) (by decide)).pure σ rfl rfl
  have hb1 : Bx (((⟨[], 0⟩ : St).push ⟨[.bool false, .nilS, .nilS, .bool false, .int .i64 0, .int .i64 0], 6, false⟩).push ⟨[.bool false, .nilS, .nilS, .bool false, .int .i64 0, .int .i64 0], 6, false⟩) 1 [.bool false, .nilS, .nilS, .bool false, .int .i64 0, .int .i64 0] := Bx.push
  have hb0 : Bx (((⟨[], 0⟩ : St).push ⟨[.bool false, .nilS, .nilS, .bool false, .int .i64 0, .int .i64 0], 6, false⟩).push ⟨[.bool false, .nilS, .nilS, .bool false, .int .i64 0, .int .i64 0], 6, false⟩) 0 [.bool false, .nilS, .nilS, .bool false, .int .i64 0, .int .i64 0] := Bx.push.old Old.push
  obtain ⟨σ3, a1, a2, a3⟩ := hb1.st (ws := WC (.f 0 1)) rfl (WC_one _)
  obtain ⟨σ', h1⟩ := l83 ws hw hk ws.length 0 (.f 0 1) σ3 (by omega) (by rw [Nat.zero_mul]; exact zero_ok) a2 ⟨_, hb0.but (by decide) a3, rfl⟩
  rw [List.drop_zero] at h1
  refine FnF.mkv (c := b83) fn83 rfl md83 ⟨σ', ?_⟩ (fun _ => rfl)
  refine Eq.trans ?_ h1
  exact b83e _ _ _ _ _ σ3 rfl rfl rfl (cz _) (co _) rfl a1

/-- Rows whose cells are told, whatever their elements' size. -/
def RowE (σ : St) (b e : Nat) (cs : List AV) : Prop := ∃ o, σ.get b = some ⟨cs, e, o⟩ ∧ b < σ.n
theorem RowE.lt {σ : St} {b e : Nat} {cs : List AV} (h : RowE σ b e cs) : b < σ.n := by obtain ⟨_, _, h⟩ := h; exact h
theorem RowE.old {σ σ' : St} {b e : Nat} {cs : List AV} (h : RowE σ b e cs) (k : Old σ σ') : RowE σ' b e cs := by
  obtain ⟨o, hg, hlt⟩ := h; exact ⟨o, by rw [k.2 b hlt]; exact hg, Nat.lt_of_lt_of_le hlt k.1⟩
theorem RowE.but {σ σ' : St} {b c e : Nat} {cs : List AV} (h : RowE σ c e cs) (hc : c ≠ b) (k : But b σ σ') : RowE σ' c e cs := by
  obtain ⟨o, hg, hlt⟩ := h; exact ⟨o, by rw [k.2 c hc]; exact hg, by rw [k.1]; exact hlt⟩
theorem RowE.push {σ : St} {cs : List AV} {e : Nat} {o : Bool} : RowE (σ.push ⟨cs, e, o⟩) σ.n e cs := ⟨o, get_push_same, Nat.lt_succ_self _⟩
theorem RowE.frz {σ : St} {b e n c d : Nat} {cs : List AV} (h : RowE σ b e cs) (hl : cs.length = n * e) (hf : mapO (frzV σ (d + 1)) cs = some cs) (hc : n ≤ c) : frzV σ (d + 2) (.sl b 0 n c) = some (.lst n cs) := by
  obtain ⟨o, hg, _⟩ := h
  unfold frzV
  simp only [hg]
  rw [getCells_eq, if_pos (by omega), List.drop_zero, List.take_of_length_le (by omega)]
  simp only [hf, hc, if_true]
theorem RowE.rd {σ : St} {b e i w : Nat} {cs v : List AV} (h : RowE σ b e cs) (hv : getCells cs i w = some v) : cellsAt σ (.ptr b i) w = some v := by
  obtain ⟨o, h, _⟩ := h
  simp only [cellsAt, h]; exact hv
theorem RowE.st {σ : St} {b e i : Nat} {cs ws : List AV} (h : RowE σ b e cs) (hi : i + ws.length ≤ cs.length) (ho : allOne ws = true) : ∃ σ', storeCellsA σ b i ws = some σ' ∧ RowE σ' b e (putCells cs i ws) ∧ But b σ σ' := by
  obtain ⟨o, hg, hlt⟩ := h
  refine ⟨σ.set b ⟨putCells cs i ws, e, o⟩, ?_, ⟨o, get_set_eq hg, hlt⟩, rfl, fun c hc => get_set_ne (fun e => hc e.symm)⟩
  rw [storeCellsA_eq, hg]
  simp only []
  rw [if_pos ⟨hi, ho⟩]
theorem build_el {T : Tab} {σ : St} {st e : TypeId} {k : TK} {es y : Nat} {z w : List AV} (ht : T.ty st = some ⟨.slice e, 1, 24, [.nilS]⟩) (he : T.ty e = some ⟨k, es, y, z⟩) (hes : es ≤ 1000) (hw : w.length = es) (hz : z.length = es) (h1 : allOne w = true) : buildSliceA T σ st 1 [(0, .agg w)] = some (.sl σ.n 0 1 1, σ.push ⟨w, es, false⟩) := by
  have hp : putCells (z ++ []) (0 * es) w = w := by
    rw [List.append_nil, Nat.zero_mul, putCells, List.take_zero, List.nil_append, Nat.zero_add, List.drop_of_length_le (by omega), List.append_nil]
  simp only [buildSliceA, ht, he, repeatCells, fillA, AV.cellsOf]
  rw [if_pos (by omega)]
  rw [List.append_nil, Nat.zero_mul] at hp
  simp [hw, h1, hz, hp]
theorem build_e0 {T : Tab} {σ : St} {st e : TypeId} {k : TK} {es y : Nat} {z : List AV} (ht : T.ty st = some ⟨.slice e, 1, 24, [.nilS]⟩) (he : T.ty e = some ⟨k, es, y, z⟩) : buildSliceA T σ st 0 [] = some (.sl σ.n 0 0 0, σ.push ⟨[], es, false⟩) := by
  simp [buildSliceA, ht, he, fillA, repeatCells]
theorem append_el {T : Tab} {σ : St} {b n : Nat} {cs w : List AV} {st e : TypeId} {k : TK} {es y : Nat} {z : List AV} (ht : T.ty st = some ⟨.slice e, 1, 24, [.nilS]⟩) (he : T.ty e = some ⟨k, es, y, z⟩) (hk : ∀ j, k ≠ .int j → True) (hy : 0 < y ∧ y ≤ 100)
    (hw : w.length = es) (h1 : allOne w = true) (hcs : cs.length = n * es) (hb : RowE σ b es cs) (hs : n < 100000000000) :
    ∃ σ', appendA T (σ.push ⟨w, es, false⟩) st st (.sl b 0 n n) (.sl σ.n 0 1 1) = some (.sl (σ.n + 1) 0 (n + 1) (n + 1), σ') ∧ RowE σ' (σ.n + 1) es (cs ++ w) ∧ ∀ c, c ≠ b → c < σ.n → σ'.get c = σ.get c := by
  obtain ⟨o, hg, hlt⟩ := hb
  have hf : firstA (σ.push ⟨w, es, false⟩) es 1 (.sl σ.n 0 1 1) = some w := by
    simp only [firstA, get_push_same]
    rw [getCells_eq, if_pos (by omega), List.drop_zero, List.take_of_length_le (by omega)]
  have hg2 : (σ.push ⟨w, es, false⟩).get b = some ⟨cs, es, o⟩ := by rw [get_push_lt hlt]; exact hg
  have hc : getCells cs 0 (n * es) = some cs := by rw [getCells_eq, if_pos (by omega), List.drop_zero, List.take_of_length_le (by omega)]
  have hyb : (n + 1) * y ≤ 140737488355328 := by
    have : (n + 1) * y ≤ 100000000000 * 100 := Nat.mul_le_mul (by omega) hy.2
    omega
  refine ⟨(if o then (σ.push ⟨w, es, false⟩).del b else σ.push ⟨w, es, false⟩).push ⟨cs ++ w, es, true⟩, ?_, ⟨true, ?_, ?_⟩, ?_⟩
  · unfold appendA
    simp only [ht, he, lenA, hf, h1, hg2, hc]
    rw [if_neg (by simp), if_neg (by omega), if_pos ⟨hyb, by omega, trivial, by omega, hy.1⟩]
    cases o <;> simp [n_push]
  · cases o <;> exact get_push_same
  · cases o <;> simp [n_push, n_del]
  · intro c hc hcn
    cases o
    · simp only [Bool.false_eq_true, if_false]
      rw [get_push_lt (by show c < σ.n + 1; omega), get_push_lt hcn]
    · simp only [if_true]
      rw [get_push_lt (by show c < σ.n + 1; omega), get_del_ne (fun e => hc e.symm), get_push_lt hcn]
/-- Fractions as they come in. -/
def FC (x : Int × Int) : List AV := [.int .i64 x.1, .int .i64 x.2]
theorem FC_len (x : Int × Int) : (FC x).length = 2 := rfl
def FS (l : List (Int × Int)) : AV := .lst l.length (flat FC l)
theorem FS_get {l : List (Int × Int)} {i : Nat} (h : i < l.length) (σ : St) : cellsAt σ (.lp (flat FC l) (i * 2)) 2 = some (FC l[i]) := flat_get FC_len l i _ (List.getElem?_eq_getElem h)
theorem FS_num {l : List (Int × Int)} {i : Nat} (h : i < l.length) (σ : St) : cellsAt σ (.lp (flat FC l) (i * 2)) 1 = some [.int .i64 l[i].1] := by
  have h1 := FS_get h σ
  simp only [cellsAt, getCells_eq] at h1 ⊢
  split at h1
  · rename_i hl
    rw [if_pos (by omega)]
    have h2 := congrArg (Option.map (List.take 1)) h1
    simpa [FC, List.take_take] using h2
  · cases h1
def vfl (l : List (Int × Int)) : Bool := l.all fun x => vfr x.1 x.2
def rq (x : Int × Int) : Rat := mkRat x.1 x.2.toNat
def sumQ (l : List (Int × Int)) : Rat := l.foldl (fun s x => s + rq x) 0
/-- Chances. -/
def isCh (l : List (Int × Int)) : Bool := (decide (1 ≤ l.length) && decide (l.length ≤ 16)) && (vfl l && ((l.all fun x => decide (0 ≤ x.1)) && decide (sumQ l = 1)))

theorem v130 (l : List (Int × Int)) : FnV TT 130 [FS l] (.int .i64 l.length) := by
  refine FnV.mk (c := Try.f130.body.getD .skip) fn130 rfl md130 (ex1 ?_) (fun _ => rfl) rfl
  rw [fi130]
  simp only [Try.f130, Option.getD]
  unfold FS
  simp (maxSteps := 1000000) (disch := omega) [cellsAt, getCells, takeN, dropN, fieldAddrA, allOne, AV.one, n_push, storeCellsA, putN, overN, St.push, St.get, St.set, hget, hset, blt_dec, buildA, sizesOf, fillA, putCells, List.take_succ_cons, List.take_zero, List.drop_succ_cons, List.drop_zero, List.nil_append, List.cons_append, List.length_cons, List.length_nil, eqvs_dgs]

noncomputable def b77 : Code := Try.f77.body.getD .skip
noncomputable def B77_0 : Code := (bodyC (bodyC (sndC (fstC (sndC (sndC b77))))))
noncomputable def K77_0 : List It := .lp B77_0 :: .blk 0 :: .code (sndC (sndC (sndC b77))) :: []
theorem xl77_0 {fi : FI} {env : Env} {σ : St} : exI TT fi K77_0 env σ = exI TT fi (.code B77_0 :: K77_0) env σ := by unfold K77_0; exact xI_lp
noncomputable def R77_0_0 : List It := .code (sndC (sndC (sndC b77))) :: []
theorem eK77_0_0 : exitA 0 K77_0 = some R77_0_0 := rfl
theorem s77 (n i b m b2 m2 : Nat) (cells x w : List AV) (σ σ1 σ2 : St) (hi : i < n) (r1 : cellsAt σ (.lp cells (i * 2)) 2 = some x) (c1 : callI TT 82 [.agg x] σ = some (.agg w, σ)) (c2 : buildSliceA TT σ 101 1 [(0, .agg w)] = some (.sl σ.n 0 1 1, σ1)) (c3 : appendA TT σ1 101 101 (.sl b 0 m m) (.sl σ.n 0 1 1) = some (.sl b2 0 m2 m2, σ2)) (hw : wrapA .i64 ((i : Int) + 1) = (i : Int) + 1) :
    exI TT (FI.of Try.f77 (TT.an 77)) K77_0 [(0, .lst n cells), (3, .sl b 0 m m), (4, .int .i64 i)] σ = exI TT (FI.of Try.f77 (TT.an 77)) K77_0 [(0, .lst n cells), (3, .sl b2 0 m2 m2), (4, .int .i64 ((i : Int) + 1))] σ2 := by
  rw [fi77]
  conv => lhs; rw [xl77_0]
  simp only [B77_0, b77, Try.f77, Option.getD, fstC, sndC, bodyC, thnC, elsC]
  simp (maxSteps := 1000000) (disch := omega) [eK77_0_0, r1, c1, c2, c3, hw]
theorem e77 (n b m : Nat) (cells : List AV) (σ : St) : exI TT (FI.of Try.f77 (TT.an 77)) K77_0 [(0, .lst n cells), (3, .sl b 0 m m), (4, .int .i64 n)] σ = some (.sl b 0 m m, σ) := by
  rw [fi77, xl77_0]
  simp only [B77_0, b77, Try.f77, Option.getD, fstC, sndC, bodyC, thnC, elsC]
  simp (maxSteps := 1000000) (disch := omega) [eK77_0_0]
  simp only [R77_0_0, b77, Try.f77, Option.getD, fstC, sndC, bodyC, thnC, elsC]
  simp (maxSteps := 1000000) (disch := omega) [eK77_0_0]
theorem b77e (n : Nat) (cells : List AV) (σ1 : St) (c1 : buildSliceA TT ⟨[], 0⟩ 101 0 [] = some (.sl 0 0 0 0, σ1)) : exI TT (FI.of Try.f77 (TT.an 77)) [.code b77] (paramsE 0 [.lst n cells]) ⟨[], 0⟩ = exI TT (FI.of Try.f77 (TT.an 77)) K77_0 [(0, .lst n cells), (3, .sl 0 0 0 0), (4, .int .i64 0)] σ1 := by
  rw [fi77]
  simp only [b77, Try.f77, Option.getD, fstC, sndC, bodyC, thnC, elsC]
  simp (maxSteps := 1000000) (disch := omega) [eK77_0_0, c1]
  rfl
def wof (x : Int × Int) : Wd := .f x.1 x.2
theorem l77 (l : List (Int × Int)) (hv : vfl l = true) (hs : l.length ≤ 1000000) : ∀ (m i b : Nat) (σ : St), i + m = l.length → RowE σ b 6 (flat WC ((l.take i).map wof)) →
    ∃ b' σ', exI TT (FI.of Try.f77 (TT.an 77)) K77_0 [(0, FS l), (3, .sl b 0 i i), (4, .int .i64 i)] σ = some (.sl b' 0 l.length l.length, σ') ∧ RowE σ' b' 6 (flat WC (l.map wof)) := by
  intro m
  induction m with
  | zero =>
    intro i b σ hi hr
    obtain rfl : i = l.length := by omega
    rw [List.take_of_length_le (Nat.le_refl _)] at hr
    exact ⟨b, σ, e77 l.length b l.length (flat FC l) σ, hr⟩
  | succ m ih =>
    intro i b σ hi hr
    have hil : i < l.length := by omega
    have hvi : vfr l[i].1 l[i].2 = true := by
      simp only [vfl, List.all_eq_true] at hv
      exact hv _ (List.getElem_mem hil)
    have c1 := (r82 hvi).pure σ rfl rfl
    have c2 := build_el (T := TT) (σ := σ) (st := 101) (w := WC (wof l[i])) ty101 ty99 (by decide) rfl rfl rfl
    obtain ⟨σ2, a1, a2, _⟩ := append_el (T := TT) (st := 101) (n := i) ty101 ty99 (fun _ _ => trivial) (by decide) (WC_len (wof l[i])) (WC_one _) (by rw [flat_len WC_len]; simp; omega) hr (by omega)
    have e : flat WC ((l.take i).map wof) ++ WC (wof l[i]) = flat WC ((l.take (i + 1)).map wof) := by
      rw [List.take_succ_eq_append_getElem hil, List.map_append, flat_app]; simp [flat]
    rw [e] at a2
    obtain ⟨b', σ', k1, k2⟩ := ih (i + 1) (σ.n + 1) σ2 (by omega) a2
    refine ⟨b', σ', ?_, k2⟩
    rw [← k1]
    have hi1 : ((i + 1 : Nat) : Int) = (i : Int) + 1 := by omega
    rw [hi1]
    exact s77 l.length i b i (σ.n + 1) (i + 1) (flat FC l) (FC l[i]) (WC (wof l[i])) σ _ σ2 hil (FS_get hil σ) c1 c2 a1 (wrapA_id (by omega) (by omega))
theorem r77 (l : List (Int × Int)) (hv : vfl l = true) (hs : l.length ≤ 1000000) : FnF TT 77 [FS l] (WS (l.map wof)) := by
  have hb := build_e0 (T := TT) (σ := ⟨[], 0⟩) (st := 101) ty101 ty99
  obtain ⟨b', σ', k1, k2⟩ := l77 l hv hs l.length 0 0 _ (by omega) (RowE.push (σ := ⟨[], 0⟩) (cs := []) (e := 6) (o := false))
  refine FnF.mk (c := b77) fn77 rfl md77 ⟨σ', _, (b77e _ _ _ hb).trans k1, ?_⟩
  have := k2.frz (d := 4) (n := l.length) (c := l.length) (by rw [flat_len WC_len]; simp) (flat_frz (fun v => WC_frz σ' 4 v) _) (Nat.le_refl _)
  rw [show WS (l.map wof) = .lst l.length (flat WC (l.map wof)) by simp [WS]]
  exact this

set_option maxHeartbeats 8000000 in
theorem k88 (b1 f1 b2 f2 b3 f3 b4 f4 b5 f5 : Bool) (a1 a2 a3 a4 a5 c1_ c2_ c3_ c4_ c5_ : Int) (nx ny nu nv np nq ns nt nw nz : Nat) (lx ly lu lv lp lq ls lt lw lz : List Nat) (c1 : ∀ σ, callI TT 82 [.agg [.int .i64 (-1), .int .i64 1]] σ = some (.agg [.bool b3, .lst np (dgs .i64 lp), .lst nq (dgs .i64 lq), .bool f3, .int .i64 a3, .int .i64 c3_], σ)) (c2 : ∀ σ, callI TT 81 [.agg [.bool b3, .lst np (dgs .i64 lp), .lst nq (dgs .i64 lq), .bool f3, .int .i64 a3, .int .i64 c3_], .agg [.bool b2, .lst nu (dgs .i64 lu), .lst nv (dgs .i64 lv), .bool f2, .int .i64 a2, .int .i64 c2_]] σ = some (.agg [.bool b4, .lst ns (dgs .i64 ls), .lst nt (dgs .i64 lt), .bool f4, .int .i64 a4, .int .i64 c4_], σ))
    (c3 : ∀ σ, callI TT 141 [.agg [.bool b1, .lst nx (dgs .i64 lx), .lst ny (dgs .i64 ly), .bool f1, .int .i64 a1, .int .i64 c1_], .agg [.bool b4, .lst ns (dgs .i64 ls), .lst nt (dgs .i64 lt), .bool f4, .int .i64 a4, .int .i64 c4_]] σ = some (.agg [.bool b5, .lst nw (dgs .i64 lw), .lst nz (dgs .i64 lz), .bool f5, .int .i64 a5, .int .i64 c5_], σ)) :
    ∃ σ1, exI TT (FI.of Try.f88 (TT.an 88)) [.code (Try.f88.body.getD .skip)] (paramsE 0 [.agg [.bool b1, .lst nx (dgs .i64 lx), .lst ny (dgs .i64 ly), .bool f1, .int .i64 a1, .int .i64 c1_], .agg [.bool b2, .lst nu (dgs .i64 lu), .lst nv (dgs .i64 lv), .bool f2, .int .i64 a2, .int .i64 c2_]]) ⟨[], 0⟩ = some (.int .i64 (if nw = 0 then 0 else if b5 = true then -1 else 1), σ1) := by
  refine ex1 ?_
  rw [fi88]
  simp only [Try.f88, Option.getD]
  by_cases hw : nw = 0
  · subst hw

    simp (maxSteps := 1000000) (disch := omega) [cellsAt, getCells, takeN, dropN, fieldAddrA, allOne, AV.one, n_push, storeCellsA, putN, overN, St.push, St.get, St.set, hget, hset, blt_dec, buildA, sizesOf, fillA, putCells, List.take_succ_cons, List.take_zero, List.drop_succ_cons, List.drop_zero, List.nil_append, List.cons_append, List.length_cons, List.length_nil, eqvs_dgs, c1, c2, c3]
  · have hw0 : ¬ (nw : Int) = 0 := by omega
    cases b5 <;>
      simp (maxSteps := 1000000) (disch := omega) [cellsAt, getCells, takeN, dropN, fieldAddrA, allOne, AV.one, n_push, storeCellsA, putN, overN, St.push, St.get, St.set, hget, hset, blt_dec, buildA, sizesOf, fillA, putCells, List.take_succ_cons, List.take_zero, List.drop_succ_cons, List.drop_zero, List.nil_append, List.cons_append, List.length_cons, List.length_nil, eqvs_dgs, c1, c2, c3, hw, hw0]
theorem neg1_q : (Wd.f (-1) 1).q = -1 ∧ (Wd.f (-1) 1).ok 60 := ⟨by rw [Wd.q_f]; rfl, by decide, Nat.le_refl _⟩
theorem r88 {k : Nat} {v w : Wd} (hv : v.ok k) (hw : w.ok k) (hk : 60 ≤ k) (hk2 : k ≤ 40000000) : FnV TT 88 [WA v, WA w] (.int .i64 (cmpR v.q w.q)) := by
  have co := fun σ : St => (r82 (n := -1) (d := 1) (by decide)).pure σ rfl rfl
  obtain ⟨n1, n2⟩ := neg1_q
  have cm := r81 (n2.mono hk) hw (by omega)
  obtain ⟨q1, o1⟩ := wmul_q n2 hw
  have ca := r141 (hv.mono (show k ≤ 60 + k by omega)) o1 (by omega)
  obtain ⟨q2, o2⟩ := wadd_q hv o1
  obtain ⟨d1, d2, d3⟩ := o2.b
  rw [q1, n1] at q2
  have hz : v.q + -1 * w.q = v.q - w.q := by rw [Rat.neg_mul, Rat.one_mul, Rat.sub_eq_add_neg]
  rw [hz] at q2
  have e : cmpR v.q w.q = if (dg 1073741824 (wadd v (wmul (.f (-1) 1) w)).n).length = 0 then 0 else if (wadd v (wmul (.f (-1) 1) w)).neg = true then -1 else 1 := by
    unfold cmpR
    rw [← q2]
    generalize wadd v (wmul (.f (-1) 1) w) = D at *
    by_cases hn : D.n = 0
    · have : D.q = 0 := by rw [Wd.q, hn, sg_zero, Rat.zero_mkRat]
      rw [if_pos this, if_pos (by rw [hn]; rfl)]
    · have hq : D.q ≠ 0 := by
        intro h
        have h2 := (low_num D.neg D.n D.d (by omega)).1
        have h3 : (mkRat (sg D.neg D.n) D.d) = 0 := h
        rw [h3] at h2
        have : 0 < D.n / Nat.gcd D.n D.d := Nat.div_pos (Nat.le_of_dvd (by omega) (Nat.gcd_dvd_left _ _)) (Nat.gcd_pos_of_pos_right _ d1)
        simp at h2
        omega
      rw [if_neg hq, if_neg (fun h => hn ((dg_len_zero (by decide)).1 h))]
      have := low_neg D.neg D.n D.d (by omega) hn
      rw [show ng D.q = D.neg from this]
  rw [e]
  exact FnV.mk fn88 rfl md88 (k88 _ _ _ _ _ _ _ _ _ _ _ _ _ _ _ _ _ _ _ _ _ _ _ _ _ _ _ _ _ _ _ _ _ _ _ _ _ _ _ _ co (fun σ => cm.pure σ rfl rfl) (fun σ => ca.pure σ rfl rfl)) (fun _ => rfl) rfl

noncomputable def b123 : Code := Try.f123.body.getD .skip
noncomputable def B123_0 : Code := (bodyC (bodyC (sndC (fstC (sndC b123)))))
noncomputable def K123_0 : List It := .lp B123_0 :: .blk 0 :: .code (sndC (sndC b123)) :: []
theorem xl123_0 {fi : FI} {env : Env} {σ : St} : exI TT fi K123_0 env σ = exI TT fi (.code B123_0 :: K123_0) env σ := by unfold K123_0; exact xI_lp
noncomputable def R123_0_0 : List It := .code (sndC (sndC b123)) :: []
theorem eK123_0_0 : exitA 0 K123_0 = some R123_0_0 := rfl
theorem s123t (n i : Nat) (cells x : List AV) (σ : St) (hi : i < n) (r1 : cellsAt σ (.lp cells (i * 2)) 2 = some x) (c1 : callI TT 170 [.agg x] σ = some (.bool true, σ)) (hw : wrapA .i64 ((i : Int) + 1) = (i : Int) + 1) :
    exI TT (FI.of Try.f123 (TT.an 123)) K123_0 [(0, .lst n cells), (3, .int .i64 i)] σ = exI TT (FI.of Try.f123 (TT.an 123)) K123_0 [(0, .lst n cells), (3, .int .i64 ((i : Int) + 1))] σ := by
  rw [fi123]
  conv => lhs; rw [xl123_0]
  simp only [B123_0, b123, Try.f123, Option.getD, fstC, sndC, bodyC, thnC, elsC]
  simp (maxSteps := 1000000) (disch := omega) [eK123_0_0, r1, c1, hw]
theorem s123f (n i : Nat) (cells x : List AV) (σ : St) (hi : i < n) (r1 : cellsAt σ (.lp cells (i * 2)) 2 = some x) (c1 : callI TT 170 [.agg x] σ = some (.bool false, σ)) :
    exI TT (FI.of Try.f123 (TT.an 123)) K123_0 [(0, .lst n cells), (3, .int .i64 i)] σ = some (.bool false, σ) := by
  rw [fi123, xl123_0]
  simp only [B123_0, b123, Try.f123, Option.getD, fstC, sndC, bodyC, thnC, elsC]
  simp (maxSteps := 1000000) (disch := omega) [eK123_0_0, r1, c1]
theorem e123 (n : Nat) (cells : List AV) (σ : St) : exI TT (FI.of Try.f123 (TT.an 123)) K123_0 [(0, .lst n cells), (3, .int .i64 n)] σ = some (.bool true, σ) := by
  rw [fi123, xl123_0]
  simp only [B123_0, b123, Try.f123, Option.getD, fstC, sndC, bodyC, thnC, elsC]
  simp (maxSteps := 1000000) (disch := omega) [eK123_0_0]
  simp only [R123_0_0, b123, Try.f123, Option.getD, fstC, sndC, bodyC, thnC, elsC]
  simp (maxSteps := 1000000) (disch := omega) [eK123_0_0]
theorem l123 (l : List (Int × Int)) (hs : l.length ≤ 10000000) (σ : St) : ∀ (m i : Nat), i + m = l.length → exI TT (FI.of Try.f123 (TT.an 123)) K123_0 [(0, FS l), (3, .int .i64 i)] σ = some (.bool (vfl (l.drop i)), σ) := by
  intro m
  induction m with
  | zero =>
    intro i hi
    obtain rfl : i = l.length := by omega
    rw [List.drop_of_length_le (Nat.le_refl _)]
    exact e123 l.length (flat FC l) σ
  | succ m ih =>
    intro i hi
    have hil : i < l.length := by omega
    have c1 := v170 l[i].1 l[i].2 σ [.agg (FC l[i])] rfl
    rw [List.drop_eq_getElem_cons hil]
    have hi1 : ((i + 1 : Nat) : Int) = (i : Int) + 1 := by omega
    cases hv : vfr l[i].1 l[i].2 with
    | true =>
      rw [hv] at c1
      have h := ih (i + 1) (by omega)
      rw [hi1] at h
      have e : vfl (l[i] :: l.drop (i + 1)) = vfl (l.drop (i + 1)) := by unfold vfl; rw [List.all_cons, hv, Bool.true_and]
      rw [e, ← h]
      exact s123t l.length i (flat FC l) _ σ hil (FS_get hil σ) c1 (wrapA_id (by omega) (by omega))
    | false =>
      rw [hv] at c1
      have e : vfl (l[i] :: l.drop (i + 1)) = false := by unfold vfl; rw [List.all_cons, hv, Bool.false_and]
      rw [e]
      exact s123f l.length i (flat FC l) _ σ hil (FS_get hil σ) c1
theorem r123 (l : List (Int × Int)) (hs : l.length ≤ 10000000) : FnV TT 123 [FS l] (.bool (vfl l)) := by
  have h := l123 l hs ⟨[], 0⟩ l.length 0 (by omega)
  rw [List.drop_zero] at h
  refine FnV.mk (c := b123) fn123 rfl md123 ⟨⟨[], 0⟩, ?_⟩ (fun _ => rfl) rfl
  rw [← h, fi123]
  unfold FS
  simp only [b123, Try.f123, Option.getD, fstC, sndC, bodyC, thnC, elsC]
  simp (maxSteps := 1000000) (disch := omega) [eK123_0_0]
  rfl

noncomputable def b74 : Code := Try.f74.body.getD .skip
noncomputable def B74_0 : Code := (bodyC (bodyC (sndC (fstC (sndC (sndC b74))))))
noncomputable def K74_0 : List It := .lp B74_0 :: .blk 0 :: .code (sndC (sndC (sndC b74))) :: []
theorem xl74_0 {fi : FI} {env : Env} {σ : St} : exI TT fi K74_0 env σ = exI TT fi (.code B74_0 :: K74_0) env σ := by unfold K74_0; exact xI_lp
noncomputable def R74_0_0 : List It := .code (sndC (sndC (sndC b74))) :: []
theorem eK74_0_0 : exitA 0 K74_0 = some R74_0_0 := rfl
theorem s74t (n i : Nat) (cells : List AV) (x : Int) (σ : St) (hi : i < n) (r1 : cellsAt σ (.lp cells (i * 2)) 1 = some [.int .i64 x]) (hx : 0 ≤ x) (hw : wrapA .i64 ((i : Int) + 1) = (i : Int) + 1) :
    exI TT (FI.of Try.f74 (TT.an 74)) K74_0 [(0, .lst n cells), (3, .int .i64 i)] σ = exI TT (FI.of Try.f74 (TT.an 74)) K74_0 [(0, .lst n cells), (3, .int .i64 ((i : Int) + 1))] σ := by
  rw [fi74]
  conv => lhs; rw [xl74_0]
  simp only [B74_0, b74, Try.f74, Option.getD, fstC, sndC, bodyC, thnC, elsC]
  simp (maxSteps := 1000000) (disch := omega) [eK74_0_0, fieldAddrA, r1, hw]
theorem s74f (n i : Nat) (cells : List AV) (x : Int) (σ : St) (hi : i < n) (r1 : cellsAt σ (.lp cells (i * 2)) 1 = some [.int .i64 x]) (hx : x < 0) :
    exI TT (FI.of Try.f74 (TT.an 74)) K74_0 [(0, .lst n cells), (3, .int .i64 i)] σ = some (.bool false, σ) := by
  rw [fi74, xl74_0]
  simp only [B74_0, b74, Try.f74, Option.getD, fstC, sndC, bodyC, thnC, elsC]
  simp (maxSteps := 1000000) (disch := omega) [eK74_0_0, fieldAddrA, r1]
theorem e74 (n : Nat) (cells w s o : List AV) (z : Int) (q : Bool) (σ : St) (c1 : callI TT 77 [.lst n cells] σ = some (.lst n w, σ)) (c2 : callI TT 83 [.lst n w] σ = some (.agg s, σ)) (c3 : callI TT 82 [.agg [.int .i64 1, .int .i64 1]] σ = some (.agg o, σ)) (c4 : callI TT 88 [.agg s, .agg o] σ = some (.int .i64 z, σ)) (hq : decide (z = 0) = q) : exI TT (FI.of Try.f74 (TT.an 74)) K74_0 [(0, .lst n cells), (3, .int .i64 n)] σ = some (.bool q, σ) := by
  rw [fi74, xl74_0]
  simp only [B74_0, b74, Try.f74, Option.getD, fstC, sndC, bodyC, thnC, elsC]
  simp (maxSteps := 1000000) (disch := omega) [eK74_0_0]
  simp only [R74_0_0, b74, Try.f74, Option.getD, fstC, sndC, bodyC, thnC, elsC]
  subst hq
  simp (maxSteps := 1000000) [-ieqb_t, -ieqb_f, -ieqb_self, eK74_0_0, cellsAt, getCells, takeN, dropN, fieldAddrA, allOne, AV.one, n_push, storeCellsA, putN, overN, St.push, St.get, St.set, hget, hset, blt_dec, buildA, sizesOf, fillA, putCells, List.take_succ_cons, List.take_zero, List.drop_succ_cons, List.drop_zero, List.nil_append, List.cons_append, List.length_cons, List.length_nil, eqvs_dgs, c1, c2, c3, c4, ieqb_dec]
theorem b74f (n : Nat) (cells : List AV) (q : Bool) (σ : St) (c1 : callI TT 123 [.lst n cells] σ = some (.bool q, σ)) (h : ¬ (1 ≤ n ∧ n ≤ 16 ∧ q = true)) : exI TT (FI.of Try.f74 (TT.an 74)) [.code b74] (paramsE 0 [.lst n cells]) σ = some (.bool false, σ) := by
  rw [fi74]
  simp only [b74, Try.f74, Option.getD, fstC, sndC, bodyC, thnC, elsC]
  by_cases h1 : n < 1
  · have h1' : (n : Int) < 1 := by omega
    simp (maxSteps := 1000000) (disch := omega) [eK74_0_0]
  · have h1' : (1 : Int) ≤ (n : Int) := by omega
    by_cases h2 : 16 < n
    · have h2' : (16 : Int) < (n : Int) := by omega
      simp (maxSteps := 1000000) (disch := omega) [eK74_0_0]
    · have h2' : (n : Int) ≤ 16 := by omega
      cases q with
      | true => exact absurd ⟨by omega, by omega, rfl⟩ h
      | false =>
        simp (maxSteps := 1000000) (disch := omega) [eK74_0_0, c1]
theorem b74t (n : Nat) (cells : List AV) (σ : St) (c1 : callI TT 123 [.lst n cells] σ = some (.bool true, σ)) (h1 : 1 ≤ n) (h2 : n ≤ 16) : exI TT (FI.of Try.f74 (TT.an 74)) [.code b74] (paramsE 0 [.lst n cells]) σ = exI TT (FI.of Try.f74 (TT.an 74)) K74_0 [(0, .lst n cells), (3, .int .i64 0)] σ := by
  have h1' : (1 : Int) ≤ (n : Int) := by omega
  have h2' : (n : Int) ≤ 16 := by omega
  rw [fi74]
  simp only [b74, Try.f74, Option.getD, fstC, sndC, bodyC, thnC, elsC]
  simp (maxSteps := 1000000) (disch := omega) [eK74_0_0, c1]
  rfl
theorem l74 (l : List (Int × Int)) (hs : l.length ≤ 10000000) (σ : St) (q : Bool) (hq : exI TT (FI.of Try.f74 (TT.an 74)) K74_0 [(0, FS l), (3, .int .i64 l.length)] σ = some (.bool q, σ)) : ∀ (m i : Nat), i + m = l.length → exI TT (FI.of Try.f74 (TT.an 74)) K74_0 [(0, FS l), (3, .int .i64 i)] σ = some (.bool (((l.drop i).all fun x => decide (0 ≤ x.1)) && q), σ) := by
  intro m
  induction m with
  | zero =>
    intro i hi
    obtain rfl : i = l.length := by omega
    rw [List.drop_of_length_le (Nat.le_refl _)]
    simpa using hq
  | succ m ih =>
    intro i hi
    have hil : i < l.length := by omega
    rw [List.drop_eq_getElem_cons hil]
    have hi1 : ((i + 1 : Nat) : Int) = (i : Int) + 1 := by omega
    by_cases hx : 0 ≤ l[i].1
    · have h := ih (i + 1) (by omega)
      rw [hi1] at h
      rw [List.all_cons, decide_eq_true hx, Bool.true_and, ← h]
      exact s74t l.length i (flat FC l) _ σ hil (FS_num hil σ) hx (wrapA_id (by omega) (by omega))
    · rw [List.all_cons, decide_eq_false hx]
      exact s74f l.length i (flat FC l) _ σ hil (FS_num hil σ) (by omega)
theorem foldl_map_q (l : List (Int × Int)) : ∀ s : Rat, (l.map wof).foldl (fun (x : Rat) w => x + w.q) s = l.foldl (fun s x => s + rq x) s := by
  induction l with
  | nil => intro s; rfl
  | cons x r ih => intro s; rw [List.map_cons, List.foldl_cons, List.foldl_cons, ih, show (wof x).q = rq x from Wd.q_f _ _]
theorem wof_ok {l : List (Int × Int)} (hv : vfl l = true) : ∀ w ∈ l.map wof, w.ok 60 := by
  intro w hw
  obtain ⟨x, hx, rfl⟩ := List.mem_map.1 hw
  simp only [vfl, List.all_eq_true] at hv
  exact ⟨hv x hx, Nat.le_refl _⟩
theorem r74 (l : List (Int × Int)) (hs : l.length ≤ 10000000) : FnV TT 74 [FS l] (.bool (isCh l)) := by
  refine FnV.mk (c := b74) fn74 rfl md74 ⟨⟨[], 0⟩, ?_⟩ (fun _ => rfl) rfl
  have ca := r123 l hs ⟨[], 0⟩ [FS l] rfl
  by_cases h : 1 ≤ l.length ∧ l.length ≤ 16 ∧ vfl l = true
  · obtain ⟨h1, h2, h3⟩ := h
    rw [h3] at ca
    refine (b74t _ _ _ ca h1 h2).trans ?_
    have hok := wof_ok h3
    have cw := (r77 l h3 (by omega)).pure ⟨[], 0⟩ rfl rfl
    have cs := (r83 (l.map wof) hok (by rw [List.length_map]; omega)).pure ⟨[], 0⟩ rfl rfl
    rw [show (Go.Proofs.Ytihoeimlkbjgmaa.WS (l.map wof)) = AV.lst l.length (flat WC (l.map wof)) by simp [Go.Proofs.Ytihoeimlkbjgmaa.WS]] at cw cs
    obtain ⟨q1, o1⟩ := wsum_q hok
    rw [List.length_map] at o1
    have co := (r82 (n := 1) (d := 1) (by decide)).pure ⟨[], 0⟩ rfl rfl
    have o2 : (Wd.f 1 1).ok 60 := ⟨by decide, Nat.le_refl _⟩
    have cc := r88 o1 (o2.mono (by omega)) (by omega) (by omega) ⟨[], 0⟩ [WA (wsum (l.map wof)), WA (.f 1 1)] rfl
    have e1 : decide (cmpR (wsum (l.map wof)).q (Wd.f 1 1).q = 0) = decide (sumQ l = 1) := by
      have hq : (wsum (l.map wof)).q = sumQ l := by rw [q1, foldl_map_q]; rfl
      have h1q : (Wd.f 1 1).q = 1 := by rw [Wd.q_f]; rfl
      rw [hq, h1q]
      by_cases hh : sumQ l = 1
      · rw [decide_eq_true hh, decide_eq_true (cmpR_zero.2 hh)]
      · rw [decide_eq_false hh, decide_eq_false (fun h => hh (cmpR_zero.1 h))]
    have he := e74 l.length (flat FC l) (flat WC (l.map wof)) _ _ _ _ ⟨[], 0⟩ cw cs co cc e1
    have hl := l74 l hs ⟨[], 0⟩ _ he l.length 0 (by omega)
    rw [List.drop_zero] at hl
    have e2 : isCh l = ((l.all fun x => decide (0 ≤ x.1)) && decide (sumQ l = 1)) := by
      unfold isCh; rw [decide_eq_true h1, decide_eq_true h2, h3]; rfl
    rw [e2]
    exact hl
  · have e2 : isCh l = false := by
      cases hx : isCh l with
      | false => rfl
      | true =>
        simp only [isCh, Bool.and_eq_true, decide_eq_true_eq] at hx
        exact absurd ⟨hx.1.1, hx.1.2, hx.2.1⟩ h
    rw [e2]
    exact b74f _ _ _ _ ca h

theorem r174 (n d : Int) : FnV TT 174 [.agg [.int .i64 n, .int .i64 d]] (.bool (!vfr n d)) := by
  refine FnV.mk (c := Try.f174.body.getD .skip) fn174 rfl md174 (ex1 ?_) (fun _ => rfl) rfl
  have c1 := fun σ : St => v175 n d σ [.agg [.int .i64 n, .int .i64 d]] rfl
  rw [fi174]
  simp only [Try.f174, Option.getD]
  simp (maxSteps := 1000000) (disch := omega) [cellsAt, getCells, takeN, dropN, fieldAddrA, allOne, AV.one, n_push, storeCellsA, putN, overN, St.push, St.get, St.set, hget, hset, blt_dec, buildA, sizesOf, fillA, putCells, List.take_succ_cons, List.take_zero, List.drop_succ_cons, List.drop_zero, List.nil_append, List.cons_append, List.length_cons, List.length_nil, eqvs_dgs, c1]

noncomputable def b192 : Code := Try.f192.body.getD .skip
noncomputable def B192_0 : Code := (bodyC (bodyC (sndC (fstC (sndC b192)))))
noncomputable def K192_0 : List It := .lp B192_0 :: .blk 0 :: .code (sndC (sndC b192)) :: []
theorem xl192_0 {fi : FI} {env : Env} {σ : St} : exI TT fi K192_0 env σ = exI TT fi (.code B192_0 :: K192_0) env σ := by unfold K192_0; exact xI_lp
noncomputable def R192_0_0 : List It := .code (sndC (sndC b192)) :: []
theorem eK192_0_0 : exitA 0 K192_0 = some R192_0_0 := rfl
theorem s192t (n i : Nat) (cells x : List AV) (σ : St) (hi : i < n) (r1 : cellsAt σ (.lp cells (i * 2)) 2 = some x) (c1 : callI TT 174 [.agg x] σ = some (.bool true, σ)) :
    exI TT (FI.of Try.f192 (TT.an 192)) K192_0 [(0, .lst n cells), (1, .fn 174 [] []), (7, .int .i64 n), (8, .int .i64 i)] σ = some (.int .i64 i, σ) := by
  rw [fi192, xl192_0]
  simp only [B192_0, b192, Try.f192, Option.getD, fstC, sndC, bodyC, thnC, elsC]
  simp (maxSteps := 1000000) (disch := omega) [eK192_0_0, r1, c1, List.append_nil, List.nil_append]
theorem s192f (n i : Nat) (cells x : List AV) (σ : St) (hi : i < n) (r1 : cellsAt σ (.lp cells (i * 2)) 2 = some x) (c1 : callI TT 174 [.agg x] σ = some (.bool false, σ)) (hw : wrapA .i64 ((i : Int) + 1) = (i : Int) + 1) :
    exI TT (FI.of Try.f192 (TT.an 192)) K192_0 [(0, .lst n cells), (1, .fn 174 [] []), (7, .int .i64 n), (8, .int .i64 i)] σ = exI TT (FI.of Try.f192 (TT.an 192)) K192_0 [(0, .lst n cells), (1, .fn 174 [] []), (7, .int .i64 n), (8, .int .i64 ((i : Int) + 1))] σ := by
  rw [fi192]
  conv => lhs; rw [xl192_0]
  simp only [B192_0, b192, Try.f192, Option.getD, fstC, sndC, bodyC, thnC, elsC]
  simp (maxSteps := 1000000) (disch := omega) [eK192_0_0, r1, c1, hw, List.append_nil, List.nil_append]
theorem e192 (n : Nat) (cells : List AV) (σ : St) : exI TT (FI.of Try.f192 (TT.an 192)) K192_0 [(0, .lst n cells), (1, .fn 174 [] []), (7, .int .i64 n), (8, .int .i64 n)] σ = some (.int .i64 (-1), σ) := by
  rw [fi192, xl192_0]
  simp only [B192_0, b192, Try.f192, Option.getD, fstC, sndC, bodyC, thnC, elsC]
  simp (maxSteps := 1000000) (disch := omega) [eK192_0_0]
  simp only [R192_0_0, b192, Try.f192, Option.getD, fstC, sndC, bodyC, thnC, elsC]
  simp (maxSteps := 1000000) (disch := omega) [eK192_0_0]
theorem l192 (l : List (Int × Int)) (hs : l.length ≤ 10000000) (σ : St) : ∀ (m i : Nat), i + m = l.length → ∃ z : Int, exI TT (FI.of Try.f192 (TT.an 192)) K192_0 [(0, FS l), (1, .fn 174 [] []), (7, .int .i64 l.length), (8, .int .i64 i)] σ = some (.int .i64 z, σ) ∧ (0 ≤ z ↔ vfl (l.drop i) = false) := by
  intro m
  induction m with
  | zero =>
    intro i hi
    obtain rfl : i = l.length := by omega
    rw [List.drop_of_length_le (Nat.le_refl _)]
    exact ⟨-1, e192 l.length (flat FC l) σ, by simp [vfl]⟩
  | succ m ih =>
    intro i hi
    have hil : i < l.length := by omega
    have c1 := r174 l[i].1 l[i].2 σ [.agg (FC l[i])] rfl
    rw [List.drop_eq_getElem_cons hil]
    have hi1 : ((i + 1 : Nat) : Int) = (i : Int) + 1 := by omega
    cases hv : vfr l[i].1 l[i].2 with
    | true =>
      rw [hv] at c1
      obtain ⟨z, h1, h2⟩ := ih (i + 1) (by omega)
      rw [hi1] at h1
      have e : vfl (l[i] :: l.drop (i + 1)) = vfl (l.drop (i + 1)) := by unfold vfl; rw [List.all_cons, hv, Bool.true_and]
      refine ⟨z, ?_, by rw [e]; exact h2⟩
      rw [← h1]
      exact s192f l.length i (flat FC l) _ σ hil (FS_get hil σ) c1 (wrapA_id (by omega) (by omega))
    | false =>
      rw [hv] at c1
      have e : vfl (l[i] :: l.drop (i + 1)) = false := by unfold vfl; rw [List.all_cons, hv, Bool.false_and]
      exact ⟨i, s192t l.length i (flat FC l) _ σ hil (FS_get hil σ) c1, by rw [e]; simp⟩
theorem r192 (l : List (Int × Int)) (hs : l.length ≤ 10000000) (σ : St) : ∃ z : Int, callI TT 192 [FS l, .fn 174 [] []] σ = some (.int .i64 z, σ) ∧ (0 ≤ z ↔ vfl l = false) := by
  obtain ⟨z, h1, h2⟩ := l192 l hs σ l.length 0 (by omega)
  rw [List.drop_zero] at h2
  refine ⟨z, ?_, h2⟩
  rw [← h1, cI_0 fn192 rfl md192, fi192]
  unfold FS
  simp (maxSteps := 1000000) (disch := omega) [eK192_0_0]
  rfl

theorem r173 (l : List (Int × Int)) (hs : l.length ≤ 10000000) (σ : St) : callI TT 173 [FS l, .fn 174 [] []] σ = some (.bool (!vfl l), σ) := by
  obtain ⟨z, h1, h2⟩ := r192 l hs σ
  rw [cI_0 fn173 rfl md173, fi173]
  unfold FS at *
  cases hv : vfl l with
  | true =>
    have : z < 0 := by
      rw [hv] at h2
      refine Int.not_le.1 fun h => ?_
      have := h2.1 h
      cases this
    simp (maxSteps := 1000000) (disch := omega) [h1]
  | false =>
    have : 0 ≤ z := h2.2 hv
    simp (maxSteps := 1000000) (disch := omega) [h1]

theorem r132 (l : List (Int × Int)) (hs : l.length ≤ 10000000) : FnV TT 132 [FS l] (.bool (vfl l)) := by
  have c1 := r173 l hs
  refine FnV.mk (c := Try.f132.body.getD .skip) fn132 rfl md132 ⟨⟨[], 0⟩, ?_⟩ (fun _ => rfl) rfl
  rw [fi132]
  simp only [Try.f132, Option.getD]
  unfold FS at *
  simp (maxSteps := 1000000) (disch := omega) [c1]

noncomputable def b67 : Code := Try.f67.body.getD .skip
noncomputable def B67_0 : Code := (bodyC (bodyC (sndC (fstC (sndC (sndC (sndC b67)))))))
noncomputable def K67_0 : List It := .lp B67_0 :: .blk 0 :: .code (sndC (sndC (sndC (sndC b67)))) :: []
theorem xl67_0 {fi : FI} {env : Env} {σ : St} : exI TT fi K67_0 env σ = exI TT fi (.code B67_0 :: K67_0) env σ := by unfold K67_0; exact xI_lp
noncomputable def R67_0_0 : List It := .code (sndC (sndC (sndC (sndC b67)))) :: []
theorem eK67_0_0 : exitA 0 K67_0 = some R67_0_0 := rfl
def RC (q : Rat) : List AV := [.bool (ng q), NA (nm q), NA q.den]
theorem RC_one (q : Rat) : allOne (RC q) = true := rfl
theorem RC_eqv (q : Rat) : eqvs (RC q) (RC q) = true := by simp [RC, eqvs, AV.eqv, NA, eqvs_dgs]
set_option maxHeartbeats 1000000 in
theorem s67t (n i : Nat) (cells x s r t : List AV) (a : Int) (σ σ1 σ2 σ3 : St) (hi : i < n) (l1 : cellsAt σ (.lp cells (i * 2)) 2 = some x) (h2 : σ.push ⟨[.int .i64 0, .int .i64 0], 2, false⟩ = σ1) (hx : x.length = 2) (s1 : storeCellsA σ1 σ.n 0 x = some σ2) (l2 : cellsAt σ2 (.ptr σ.n 0) 1 = some [.int .i64 a]) (ha : 0 ≤ a) (l3 : cellsAt σ2 (.ptr 0 0) 3 = some s) (l4 : cellsAt σ2 (.ptr σ.n 0) 2 = some x)
    (c1 : callI TT 72 [.agg x] σ2 = some (.agg r, σ2)) (c2 : callI TT 85 [.agg s, .agg r] σ2 = some (.agg t, σ2)) (ht : t.length = 3) (s2 : storeCellsA σ2 0 0 t = some σ3) (hes : eqvs s s = true) (hw : wrapA .i64 ((i : Int) + 1) = (i : Int) + 1) :
    exI TT (FI.of Try.f67 (TT.an 67)) K67_0 [(3, .ptr 0 0), (16, .lst n cells), (17, .int .i64 n), (18, .int .i64 i)] σ = exI TT (FI.of Try.f67 (TT.an 67)) K67_0 [(3, .ptr 0 0), (16, .lst n cells), (17, .int .i64 n), (18, .int .i64 ((i : Int) + 1))] σ3 := by
  rw [fi67]
  conv => lhs; rw [xl67_0]
  simp only [B67_0, b67, Try.f67, Option.getD, fstC, sndC, bodyC, thnC, elsC]
  simp (maxSteps := 1000000) (disch := omega) [eK67_0_0, fieldAddrA, blt_dec, l1, h2, hx, s1, l2, l3, l4, c1, c2, ht, s2, hes, hw]
theorem s67f (n i : Nat) (cells x : List AV) (a : Int) (σ σ1 σ2 : St) (hi : i < n) (l1 : cellsAt σ (.lp cells (i * 2)) 2 = some x) (h2 : σ.push ⟨[.int .i64 0, .int .i64 0], 2, false⟩ = σ1) (hx : x.length = 2) (s1 : storeCellsA σ1 σ.n 0 x = some σ2) (l2 : cellsAt σ2 (.ptr σ.n 0) 1 = some [.int .i64 a]) (ha : a < 0) :
    exI TT (FI.of Try.f67 (TT.an 67)) K67_0 [(3, .ptr 0 0), (16, .lst n cells), (17, .int .i64 n), (18, .int .i64 i)] σ = some (.bool false, σ2) := by
  rw [fi67, xl67_0]
  simp only [B67_0, b67, Try.f67, Option.getD, fstC, sndC, bodyC, thnC, elsC]
  simp (maxSteps := 1000000) (disch := omega) [eK67_0_0, fieldAddrA, l1, h2, hx, s1, l2]
theorem e67 (n : Nat) (cells s o : List AV) (z : Int) (q : Bool) (σ : St) (l3 : cellsAt σ (.ptr 0 0) 3 = some s) (c1 : callI TT 84 [.int .i64 1] σ = some (.agg o, σ)) (c2 : callI TT 73 [.agg s, .agg o] σ = some (.int .i64 z, σ)) (hes : eqvs s s = true) (hq : decide (z = 0) = q) : exI TT (FI.of Try.f67 (TT.an 67)) K67_0 [(3, .ptr 0 0), (16, .lst n cells), (17, .int .i64 n), (18, .int .i64 n)] σ = some (.bool q, σ) := by
  subst hq
  rw [fi67, xl67_0]
  simp only [B67_0, b67, Try.f67, Option.getD, fstC, sndC, bodyC, thnC, elsC]
  simp (maxSteps := 1000000) (disch := omega) [eK67_0_0]
  simp only [R67_0_0, b67, Try.f67, Option.getD, fstC, sndC, bodyC, thnC, elsC]
  simp (maxSteps := 1000000) [-ieqb_t, -ieqb_f, -ieqb_self, eK67_0_0, takeN, dropN, fieldAddrA, allOne, AV.one, n_push, putN, overN, blt_dec, buildA, sizesOf, fillA, putCells, List.take_succ_cons, List.take_zero, List.drop_succ_cons, List.drop_zero, List.nil_append, List.cons_append, List.length_cons, List.length_nil, eqvs_dgs, l3, c1, c2, hes, ieqb_dec]
theorem b67f (n : Nat) (cells : List AV) (q1 q2 : Bool) (σ : St) (c0 : callI TT 130 [.lst n cells] σ = some (.int .i64 n, σ)) (c1 : callI TT 63 [.int .i64 n, .int .i64 1, .int .i64 16] σ = some (.bool q1, σ)) (c2 : callI TT 132 [.lst n cells] σ = some (.bool q2, σ)) (h : (q1 && q2) = false) : exI TT (FI.of Try.f67 (TT.an 67)) [.code b67] (paramsE 0 [.lst n cells]) σ = some (.bool false, σ) := by
  rw [fi67]
  simp only [b67, Try.f67, Option.getD, fstC, sndC, bodyC, thnC, elsC]
  cases q1 with
  | false =>
    simp (maxSteps := 1000000) (disch := omega) [eK67_0_0, c0, c1]
  | true => cases q2 with
    | true => exact absurd h (by decide)
    | false =>
      simp (maxSteps := 1000000) (disch := omega) [eK67_0_0, c0, c1, c2]
theorem b67t (n : Nat) (cells o : List AV) (σ1 : St) (c0 : callI TT 130 [.lst n cells] ⟨[], 0⟩ = some (.int .i64 n, ⟨[], 0⟩)) (c1 : callI TT 63 [.int .i64 n, .int .i64 1, .int .i64 16] ⟨[], 0⟩ = some (.bool true, ⟨[], 0⟩)) (c2 : callI TT 132 [.lst n cells] ⟨[], 0⟩ = some (.bool true, ⟨[], 0⟩)) (c3 : callI TT 84 [.int .i64 0] ⟨[], 0⟩ = some (.agg o, ⟨[], 0⟩)) (ho : o.length = 3) (s1 : storeCellsA ((⟨[], 0⟩ : St).push ⟨[.bool false, .nilS, .nilS], 3, false⟩) 0 0 o = some σ1) : exI TT (FI.of Try.f67 (TT.an 67)) [.code b67] (paramsE 0 [.lst n cells]) ⟨[], 0⟩ = exI TT (FI.of Try.f67 (TT.an 67)) K67_0 [(3, .ptr 0 0), (16, .lst n cells), (17, .int .i64 n), (18, .int .i64 0)] σ1 := by
  rw [fi67]
  simp only [b67, Try.f67, Option.getD, fstC, sndC, bodyC, thnC, elsC]
  simp (maxSteps := 1000000) (disch := omega) [eK67_0_0, c0, c1, c2, c3, ho, s1]
  rfl
theorem sumQ_succ (l : List (Int × Int)) (i : Nat) (h : i < l.length) : sumQ (l.take (i + 1)) = sumQ (l.take i) + rq l[i] := by
  rw [List.take_succ_eq_append_getElem h, sumQ, List.foldl_append]; rfl
theorem rq_bd {x : Int × Int} (h : vfr x.1 x.2 = true) : Bd 60 (rq x) := fits_bd (vfr_rat h).2.2
theorem l67 (l : List (Int × Int)) (hv : vfl l = true) (hs : l.length ≤ 16) : ∀ (m i : Nat) (σ : St), i + m = l.length → Bx σ 0 (RC (sumQ (l.take i))) → Bd (1 + i * 61) (sumQ (l.take i)) →
    ∃ σ', exI TT (FI.of Try.f67 (TT.an 67)) K67_0 [(3, .ptr 0 0), (16, FS l), (17, .int .i64 l.length), (18, .int .i64 i)] σ = some (.bool (((l.drop i).all fun x => decide (0 ≤ x.1)) && decide (sumQ l = 1)), σ') := by
  intro m
  induction m with
  | zero =>
    intro i σ hi hb hbd
    obtain rfl : i = l.length := by omega
    rw [List.take_of_length_le (Nat.le_refl _)] at hb hbd
    rw [List.drop_of_length_le (Nat.le_refl _)]
    have co := (r84 (n := 1) (by decide) (by decide)).pure σ rfl rfl
    have b1 : Bd (1 + l.length * 61) (mkRat 1 1) := (show Bd 1 (mkRat 1 1) from ⟨by decide, by decide⟩).mono (by omega)
    have cc := r73 hbd b1 (by omega) σ [RT (sumQ l), RT (mkRat 1 1)] rfl
    have e1 : decide (cmpR (sumQ l) (mkRat 1 1) = 0) = decide (sumQ l = 1) := by
      by_cases hh : sumQ l = 1
      · rw [decide_eq_true hh, decide_eq_true (show cmpR (sumQ l) (mkRat 1 1) = 0 from cmpR_zero.2 (by rw [hh]; rfl))]
      · rw [decide_eq_false hh, decide_eq_false (show ¬ cmpR (sumQ l) (mkRat 1 1) = 0 from fun h => hh ((cmpR_zero.1 h).trans rfl))]
    exact ⟨σ, e67 l.length (flat FC l) (RC (sumQ l)) _ _ _ σ (hb.rd rfl) co cc (RC_eqv _) e1⟩
  | succ m ih =>
    intro i σ hi hb hbd
    have hil : i < l.length := by omega
    have hvi : vfr l[i].1 l[i].2 = true := by
      simp only [vfl, List.all_eq_true] at hv
      exact hv _ (List.getElem_mem hil)
    have hx1 : Bx (σ.push ⟨[.int .i64 0, .int .i64 0], 2, false⟩) σ.n [.int .i64 0, .int .i64 0] := Bx.push
    obtain ⟨σ2, a1, a2, a3⟩ := hx1.st (ws := FC l[i]) rfl rfl
    have hlt := hb.lt
    have hb2 : Bx σ2 0 (RC (sumQ (l.take i))) := (hb.old Old.push).but (by omega) a3
    have l4 := a2.rd (n := 2) rfl
    have l2 : cellsAt σ2 (.ptr σ.n 0) 1 = some [.int .i64 l[i].1] := by
      obtain ⟨⟨mm, hg⟩, _⟩ := a2
      simp [cellsAt, hg, getCells, dropN, takeN, FC]
    rw [List.drop_eq_getElem_cons hil, List.all_cons]
    by_cases ha : 0 ≤ l[i].1
    · have c1 := (r72 hvi).pure σ2 rfl rfl
      have hrb := rq_bd hvi
      have c2 := (r85 (hbd.mono (show 1 + i * 61 ≤ 1 + i * 61 + 60 by omega)) (hrb.mono (show 60 ≤ 1 + i * 61 + 60 by omega)) (by omega)).pure σ2 rfl rfl
      have hsum : RT (sumQ (l.take i) + rq l[i]) = .agg (RC (sumQ (l.take (i + 1)))) := by rw [sumQ_succ l i hil]; rfl
      obtain ⟨σ3, d1, d2, d3⟩ := hb2.st (ws := RC (sumQ (l.take (i + 1)))) rfl (RC_one _)
      have hbd2 : Bd (1 + (i + 1) * 61) (sumQ (l.take (i + 1))) := by
        rw [sumQ_succ l i hil]
        exact (hbd.add hrb).mono (by omega)
      obtain ⟨σ', k1⟩ := ih (i + 1) σ3 (by omega) d2 hbd2
      have hi1 : ((i + 1 : Nat) : Int) = (i : Int) + 1 := by omega
      rw [hi1] at k1
      refine ⟨σ', ?_⟩
      rw [decide_eq_true ha, Bool.true_and, ← k1]
      exact s67t l.length i (flat FC l) (FC l[i]) _ _ _ _ σ _ σ2 σ3 hil (FS_get hil σ) rfl rfl a1 l2 ha (hb2.rd rfl) l4 c1 (c2.trans (by rw [hsum])) rfl d1 (RC_eqv _) (wrapA_id (by omega) (by omega))
    · rw [decide_eq_false ha]
      exact ⟨σ2, s67f l.length i (flat FC l) (FC l[i]) _ σ _ σ2 hil (FS_get hil σ) rfl rfl a1 l2 (by omega)⟩
theorem r67 (l : List (Int × Int)) (hs : l.length ≤ 10000000) : FnV TT 67 [FS l] (.bool (isCh l)) := by
  have c0 := v130 l ⟨[], 0⟩ [FS l] rfl
  have c1 := v63 l.length 1 16 ⟨[], 0⟩ [.int .i64 l.length, .int .i64 1, .int .i64 16] rfl
  have c2 := r132 l hs ⟨[], 0⟩ [FS l] rfl
  by_cases h : 1 ≤ l.length ∧ l.length ≤ 16 ∧ vfl l = true
  · obtain ⟨h1, h2, h3⟩ := h
    rw [decide_eq_true (by omega), decide_eq_true (by omega)] at c1
    rw [h3] at c2
    have c3 := (r84 (n := 0) (by decide) (by decide)).pure ⟨[], 0⟩ rfl rfl
    have hb0 : Bx ((⟨[], 0⟩ : St).push ⟨[.bool false, .nilS, .nilS], 3, false⟩) 0 [.bool false, .nilS, .nilS] := Bx.push
    obtain ⟨σ1, a1, a2, a3⟩ := hb0.st (ws := RC 0) rfl (RC_one _)
    obtain ⟨σ', k1⟩ := l67 l h3 h2 l.length 0 σ1 (by omega) (by rw [List.take_zero]; exact a2) (by rw [List.take_zero]; exact ⟨by decide, by decide⟩)
    rw [List.drop_zero] at k1
    have e2 : isCh l = ((l.all fun x => decide (0 ≤ x.1)) && decide (sumQ l = 1)) := by
      unfold isCh; rw [decide_eq_true h1, decide_eq_true h2, h3]; rfl
    rw [e2]
    exact FnV.mk (c := b67) fn67 rfl md67 ⟨σ', (b67t l.length (flat FC l) (RC 0) σ1 c0 c1 c2 c3 rfl a1).trans k1⟩ (fun _ => rfl) rfl
  · have e2 : isCh l = false := by
      cases hx : isCh l with
      | false => rfl
      | true =>
        simp only [isCh, Bool.and_eq_true, decide_eq_true_eq] at hx
        exact absurd ⟨hx.1.1, hx.1.2, hx.2.1⟩ h
    rw [e2]
    refine FnV.mk (c := b67) fn67 rfl md67 ⟨⟨[], 0⟩, b67f l.length (flat FC l) _ _ _ c0 c1 c2 ?_⟩ (fun _ => rfl) rfl
    cases hq : (decide (1 ≤ (l.length : Int)) && decide ((l.length : Int) ≤ 16)) with
    | false => rfl
    | true =>
      cases hv : vfl l with
      | false => rfl
      | true =>
        simp only [Bool.and_eq_true, decide_eq_true_eq] at hq
        exact absurd ⟨by omega, by omega, hv⟩ h

theorem r58 (a b : Int) : FnV TT 58 [.agg [.int .i64 a, .int .i64 b]] (.agg [.int .i64 a, .int .i64 b]) := by
  refine FnV.mk (c := Try.f58.body.getD .skip) fn58 rfl md58 (ex1 ?_) (fun _ => rfl) rfl
  rw [fi58]
  simp only [Try.f58, Option.getD]
  simp (maxSteps := 1000000) (disch := omega) [cellsAt, getCells, takeN, dropN, fieldAddrA, allOne, AV.one, n_push, storeCellsA, putN, overN, St.push, St.get, St.set, hget, hset, blt_dec, buildA, sizesOf, fillA, putCells, List.take_succ_cons, List.take_zero, List.drop_succ_cons, List.drop_zero, List.nil_append, List.cons_append, List.length_cons, List.length_nil, eqvs_dgs]

theorem r14 (l : List (Int × Int)) (k : Nat) (hk : k ≤ 1048576) (hl : l.length ≤ 9223372036854775807) : FnV TT 14 [FS l, .int .i64 k] (.int .i64 (if k < l.length then -1 else (k : Int) - l.length)) := by
  refine FnV.mk (c := Try.f14.body.getD .skip) fn14 rfl md14 (ex1 ?_) (fun _ => rfl) rfl
  unfold FS
  generalize l.length = n at *
  obtain ⟨z, hz⟩ : ∃ z : Int, (k : Int) - (n : Int) = z := ⟨_, rfl⟩
  have hw : wrapA .i64 ((k : Int) - (n : Int)) = z := by rw [← hz]; exact wrapA_id (by omega) (by omega)
  rw [hz]
  rw [fi14]
  simp only [Try.f14, Option.getD]
  by_cases h : k < n
  · have h1 : z < 0 := by omega
    rw [if_pos h]
    clear hz
    simp (maxSteps := 1000000) (disch := omega) [cellsAt, getCells, takeN, dropN, fieldAddrA, allOne, AV.one, n_push, storeCellsA, putN, overN, St.push, St.get, St.set, hget, hset, blt_dec, buildA, sizesOf, fillA, putCells, List.take_succ_cons, List.take_zero, List.drop_succ_cons, List.drop_zero, List.nil_append, List.cons_append, List.length_cons, List.length_nil, eqvs_dgs, hw]
  · have h1 : 0 ≤ z := by omega
    rw [if_neg h]
    clear hz
    simp (maxSteps := 1000000) (disch := omega) [cellsAt, getCells, takeN, dropN, fieldAddrA, allOne, AV.one, n_push, storeCellsA, putN, overN, St.push, St.get, St.set, hget, hset, blt_dec, buildA, sizesOf, fillA, putCells, List.take_succ_cons, List.take_zero, List.drop_succ_cons, List.drop_zero, List.nil_append, List.cons_append, List.length_cons, List.length_nil, eqvs_dgs, hw]

noncomputable def b16 : Code := Try.f16.body.getD .skip
noncomputable def B16_0 : Code := (bodyC (bodyC (sndC (fstC (sndC (sndC b16))))))
noncomputable def K16_0 : List It := .lp B16_0 :: .blk 0 :: .code (sndC (sndC (sndC b16))) :: []
theorem xl16_0 {fi : FI} {env : Env} {σ : St} : exI TT fi K16_0 env σ = exI TT fi (.code B16_0 :: K16_0) env σ := by unfold K16_0; exact xI_lp
noncomputable def R16_0_0 : List It := .code (sndC (sndC (sndC b16))) :: []
theorem eK16_0_0 : exitA 0 K16_0 = some R16_0_0 := rfl
theorem s16 (n b i : Nat) (cells x : List AV) (σ σ1 : St) (hi : i < n) (r1 : cellsAt σ (.lp cells (i * 2)) 2 = some x) (c1 : callI TT 58 [.agg x] σ = some (.agg x, σ)) (hx : x.length = 2) (s1 : storeCellsA σ b (i * 2) x = some σ1) (hw : wrapA .i64 ((i : Int) + 1) = (i : Int) + 1) :
    exI TT (FI.of Try.f16 (TT.an 16)) K16_0 [(0, .lst n cells), (3, .sl b 0 n n), (4, .int .i64 i)] σ = exI TT (FI.of Try.f16 (TT.an 16)) K16_0 [(0, .lst n cells), (3, .sl b 0 n n), (4, .int .i64 ((i : Int) + 1))] σ1 := by
  rw [fi16]
  conv => lhs; rw [xl16_0]
  simp only [B16_0, b16, Try.f16, Option.getD, fstC, sndC, bodyC, thnC, elsC]
  simp (maxSteps := 1000000) (disch := omega) [eK16_0_0, r1, c1, hx, s1, hw]
theorem e16 (n b : Nat) (cells : List AV) (σ : St) : exI TT (FI.of Try.f16 (TT.an 16)) K16_0 [(0, .lst n cells), (3, .sl b 0 n n), (4, .int .i64 n)] σ = some (.sl b 0 n n, σ) := by
  rw [fi16, xl16_0]
  simp only [B16_0, b16, Try.f16, Option.getD, fstC, sndC, bodyC, thnC, elsC]
  simp (maxSteps := 1000000) (disch := omega) [eK16_0_0]
  simp only [R16_0_0, b16, Try.f16, Option.getD, fstC, sndC, bodyC, thnC, elsC]
  simp (maxSteps := 1000000) (disch := omega) [eK16_0_0]
theorem b16e (n : Nat) (cells : List AV) (σ1 : St) (c1 : makeSliceA TT ⟨[], 0⟩ 25 (.int .i64 n) (.int .i64 n) = some (.sl 0 0 n n, σ1)) : exI TT (FI.of Try.f16 (TT.an 16)) [.code b16] (paramsE 0 [.lst n cells]) ⟨[], 0⟩ = exI TT (FI.of Try.f16 (TT.an 16)) K16_0 [(0, .lst n cells), (3, .sl 0 0 n n), (4, .int .i64 0)] σ1 := by
  rw [fi16]
  simp only [b16, Try.f16, Option.getD, fstC, sndC, bodyC, thnC, elsC]
  simp (maxSteps := 1000000) (disch := omega) [eK16_0_0, c1]
  rfl
theorem put_el {pre z w suf : List AV} (hz : z.length = w.length) : putCells (pre ++ (z ++ suf)) pre.length w = pre ++ (w ++ suf) := by
  unfold putCells
  rw [List.take_left' rfl, ← List.drop_drop, List.drop_left, ← hz, List.drop_left, List.append_assoc]
theorem make_el {T : Tab} {σ : St} {st e : TypeId} {k : TK} {es y n : Nat} {z : List AV} (ht : T.ty st = some ⟨.slice e, 1, 24, [.nilS]⟩) (he : T.ty e = some ⟨k, es, y, z⟩) (hy : y ≤ 100) (hn : n ≤ 100000000000) :
    makeSliceA T σ st (.int .i64 n) (.int .i64 n) = some (.sl σ.n 0 n n, σ.push ⟨repeatCells z n, es, false⟩) := by
  unfold makeSliceA
  simp only [ht, he]
  have h1 : (n : Int) * (y : Int) ≤ 140737488355328 := by
    have : n * y ≤ 100000000000 * 100 := Nat.mul_le_mul hn hy
    rw [← Int.natCast_mul]; omega
  rw [if_pos ⟨by omega, by omega, h1, by omega⟩]
  simp
theorem l16 (l : List (Int × Int)) (hs : l.length ≤ 10000000) (b : Nat) : ∀ (m i : Nat) (σ : St), i + m = l.length → RowE σ b 2 (flat FC (l.take i) ++ repeatCells [.int .i64 0, .int .i64 0] m) →
    ∃ σ', exI TT (FI.of Try.f16 (TT.an 16)) K16_0 [(0, FS l), (3, .sl b 0 l.length l.length), (4, .int .i64 i)] σ = some (.sl b 0 l.length l.length, σ') ∧ RowE σ' b 2 (flat FC l) := by
  intro m
  induction m with
  | zero =>
    intro i σ hi hr
    obtain rfl : i = l.length := by omega
    rw [List.take_of_length_le (Nat.le_refl _), repeatCells, List.append_nil] at hr
    exact ⟨σ, e16 l.length b (flat FC l) σ, hr⟩
  | succ m ih =>
    intro i σ hi hr
    have hil : i < l.length := by omega
    have hpl : (flat FC (l.take i)).length = i * 2 := by rw [flat_len FC_len, List.length_take, Nat.min_eq_left (by omega)]
    obtain ⟨σ1, a1, a2, _⟩ := hr.st (i := i * 2) (ws := FC l[i]) (by rw [List.length_append, hpl, repeatCells, List.length_append]; simp [FC]) rfl
    rw [repeatCells, ← hpl, put_el (by rfl), ← List.append_assoc] at a2
    have e : flat FC (l.take i) ++ FC l[i] = flat FC (l.take (i + 1)) := by rw [List.take_succ_eq_append_getElem hil, flat_app]; simp [flat]
    rw [e] at a2
    obtain ⟨σ', k1, k2⟩ := ih (i + 1) σ1 (by omega) a2
    refine ⟨σ', ?_, k2⟩
    rw [← k1]
    have hi1 : ((i + 1 : Nat) : Int) = (i : Int) + 1 := by omega
    rw [hi1]
    exact s16 l.length b i (flat FC l) (FC l[i]) σ σ1 hil (FS_get hil σ) (r58 _ _ σ _ rfl) rfl a1 (wrapA_id (by omega) (by omega))
theorem FC_frz (σ : St) (d : Nat) (x : Int × Int) : mapO (frzV σ (d + 1)) (FC x) = some (FC x) := rfl
theorem r16 (l : List (Int × Int)) (hs : l.length ≤ 10000000) : FnF TT 16 [FS l] (FS l) := by
  have hm := make_el (T := TT) (σ := ⟨[], 0⟩) (st := 25) (n := l.length) ty25 ty41 (by decide) (by omega)
  obtain ⟨σ', k1, k2⟩ := l16 l hs 0 l.length 0 _ (by omega) (RowE.push (σ := ⟨[], 0⟩) (cs := repeatCells [.int .i64 0, .int .i64 0] l.length) (e := 2) (o := false))
  refine FnF.mk (c := b16) fn16 rfl md16 ⟨σ', _, (b16e _ _ _ hm).trans k1, ?_⟩
  exact k2.frz (d := 4) (by rw [flat_len FC_len]) (flat_frz (fun v => FC_frz σ' 4 v) _) (Nat.le_refl _)

theorem r26 (a b : Int) : FnV TT 26 [.agg [.int .i64 a, .int .i64 b], .agg [.int .i64 a, .int .i64 b]] (.bool true) := by
  refine FnV.mk (c := Try.f26.body.getD .skip) fn26 rfl md26 (ex1 ?_) (fun _ => rfl) rfl
  rw [fi26]
  simp only [Try.f26, Option.getD]
  simp (maxSteps := 1000000) (disch := omega) [cellsAt, getCells, takeN, dropN, fieldAddrA, allOne, AV.one, n_push, storeCellsA, putN, overN, St.push, St.get, St.set, hget, hset, blt_dec, buildA, sizesOf, fillA, putCells, List.take_succ_cons, List.take_zero, List.drop_succ_cons, List.drop_zero, List.nil_append, List.cons_append, List.length_cons, List.length_nil, eqvs_dgs]

noncomputable def b18 : Code := Try.f18.body.getD .skip
noncomputable def B18_0 : Code := (bodyC (bodyC (sndC (fstC (sndC (sndC b18))))))
noncomputable def K18_0 : List It := .lp B18_0 :: .blk 0 :: .code (sndC (sndC (sndC b18))) :: []
theorem xl18_0 {fi : FI} {env : Env} {σ : St} : exI TT fi K18_0 env σ = exI TT fi (.code B18_0 :: K18_0) env σ := by unfold K18_0; exact xI_lp
noncomputable def R18_0_0 : List It := .code (sndC (sndC (sndC b18))) :: []
theorem eK18_0_0 : exitA 0 K18_0 = some R18_0_0 := rfl
theorem s18 (n i : Nat) (cells x : List AV) (σ : St) (hi : i < n) (r1 : cellsAt σ (.lp cells (i * 2)) 2 = some x) (c1 : callI TT 26 [.agg x, .agg x] σ = some (.bool true, σ)) (hw : wrapA .i64 ((i : Int) + 1) = (i : Int) + 1) :
    exI TT (FI.of Try.f18 (TT.an 18)) K18_0 [(0, .lst n cells), (1, .lst n cells), (5, .int .i64 i)] σ = exI TT (FI.of Try.f18 (TT.an 18)) K18_0 [(0, .lst n cells), (1, .lst n cells), (5, .int .i64 ((i : Int) + 1))] σ := by
  rw [fi18]
  conv => lhs; rw [xl18_0]
  simp only [B18_0, b18, Try.f18, Option.getD, fstC, sndC, bodyC, thnC, elsC]
  simp (maxSteps := 1000000) (disch := omega) [eK18_0_0, r1, c1, hw]
theorem e18 (n : Nat) (cells : List AV) (σ : St) : exI TT (FI.of Try.f18 (TT.an 18)) K18_0 [(0, .lst n cells), (1, .lst n cells), (5, .int .i64 n)] σ = some (.bool true, σ) := by
  rw [fi18, xl18_0]
  simp only [B18_0, b18, Try.f18, Option.getD, fstC, sndC, bodyC, thnC, elsC]
  simp (maxSteps := 1000000) (disch := omega) [eK18_0_0]
  simp only [R18_0_0, b18, Try.f18, Option.getD, fstC, sndC, bodyC, thnC, elsC]
  simp (maxSteps := 1000000) (disch := omega) [eK18_0_0]
theorem l18 (l : List (Int × Int)) (hs : l.length ≤ 10000000) (σ : St) : ∀ (m i : Nat), i + m = l.length → exI TT (FI.of Try.f18 (TT.an 18)) K18_0 [(0, FS l), (1, FS l), (5, .int .i64 i)] σ = some (.bool true, σ) := by
  intro m
  induction m with
  | zero =>
    intro i hi
    obtain rfl : i = l.length := by omega
    exact e18 _ _ σ
  | succ m ih =>
    intro i hi
    have hil : i < l.length := by omega
    have h := ih (i + 1) (by omega)
    have hi1 : ((i + 1 : Nat) : Int) = (i : Int) + 1 := by omega
    rw [hi1] at h
    rw [← h]
    exact s18 l.length i (flat FC l) (FC l[i]) σ hil (FS_get hil σ) (r26 _ _ σ _ rfl) (wrapA_id (by omega) (by omega))
theorem r18 (l : List (Int × Int)) (hs : l.length ≤ 10000000) : FnV TT 18 [FS l, FS l] (.bool true) := by
  have h := l18 l hs ⟨[], 0⟩ l.length 0 (by omega)
  refine FnV.mk (c := b18) fn18 rfl md18 ⟨⟨[], 0⟩, ?_⟩ (fun _ => rfl) rfl
  rw [← h, fi18]
  unfold FS
  simp only [b18, Try.f18, Option.getD, fstC, sndC, bodyC, thnC, elsC]
  simp (maxSteps := 1000000) (disch := omega) [eK18_0_0]
  rfl
theorem fits_frs {a : AV} (h : Fit (.sl [.int .i64, .int .i64]) a) : ∃ l : List (Int × Int), a = FS l ∧ l.length ≤ maxLen := by
  simp only [Fit] at h
  obtain ⟨rows, rfl, hm, h⟩ := h
  have : ∀ rows : List (List AV), (∀ r ∈ rows, Fits [.int .i64, .int .i64] r) → ∃ l : List (Int × Int), l.length = rows.length ∧ rows.flatten = flat FC l := by
    intro rows
    induction rows with
    | nil => intro _; exact ⟨[], rfl, rfl⟩
    | cons r t ih =>
      intro h
      obtain ⟨l, h1, h2⟩ := ih fun y hy => h y (by simp [hy])
      have h4 := h r (by simp)
      simp only [Fits, Fit] at h4
      obtain ⟨_, _, rfl, ⟨a, rfl, ha⟩, _, _, rfl, ⟨b, rfl, hb⟩, rfl⟩ := h4
      exact ⟨(a, b) :: l, by simp [h1], by simp [h2, flat, FC]⟩
  obtain ⟨l, h1, h2⟩ := this rows h
  exact ⟨l, by rw [FS, h1, h2], by omega⟩

theorem k3 (n : Nat) (cells : List AV) (k : Nat) (q : Bool) (c1 : ∀ σ, callI TT 14 [.lst n cells, .int .i64 1048576] σ = some (.int .i64 k, σ)) (c2 : ∀ σ, callI TT 16 [.lst n cells] σ = some (.lst n cells, σ)) (c3 : ∀ σ, callI TT 15 [.lst n cells] σ = some (.bool q, σ)) (c4 : ∀ σ, callI TT 17 [.lst n cells] σ = some (.bool q, σ)) (c5 : ∀ σ, callI TT 18 [.lst n cells, .lst n cells] σ = some (.bool true, σ)) : ∃ σ1, exI TT (FI.of Try.f3 (TT.an 3)) [.code (Try.f3.body.getD .skip)] (paramsE 0 [.lst n cells]) ⟨[], 0⟩ = some (.bool true, σ1) := by
  have hk : (0 : Int) ≤ (k : Int) := by omega
  refine ex1 ?_
  rw [fi3]
  simp only [Try.f3, Option.getD]
  cases q <;>
  simp (maxSteps := 1000000) (disch := omega) [cellsAt, getCells, takeN, dropN, fieldAddrA, allOne, AV.one, n_push, storeCellsA, putN, overN, St.push, St.get, St.set, hget, hset, blt_dec, buildA, sizesOf, fillA, putCells, List.take_succ_cons, List.take_zero, List.drop_succ_cons, List.drop_zero, List.nil_append, List.cons_append, List.length_cons, List.length_nil, eqvs_dgs, c1, c2, c3, c4, c5]
theorem RC_len (q : Rat) : (RC q).length = 3 := rfl
theorem RC_frz (σ : St) (d : Nat) (q : Rat) : mapO (frzV σ (d + 1)) (RC q) = some (RC q) := rfl
/-- A list of ratios. -/
def RS (l : List Rat) : AV := .lst l.length (flat RC l)
theorem RS_get {l : List Rat} {i : Nat} (h : i < l.length) (σ : St) : cellsAt σ (.lp (flat RC l) (i * 3)) 3 = some (RC l[i]) := flat_get RC_len l i _ (List.getElem?_eq_getElem h)
/-- A variable of a loop: a new box. -/
theorem new_box {σ : St} {z x : List AV} {m : Nat} (hz : z.length = x.length) (hx : allOne x = true) : ∃ σ2, storeCellsA (σ.push ⟨z, m, false⟩) σ.n 0 x = some σ2 ∧ Bx σ2 σ.n x ∧ Old σ σ2 ∧ σ2.n = σ.n + 1 := by
  have h1 : Bx (σ.push ⟨z, m, false⟩) σ.n z := Bx.push
  obtain ⟨σ2, a1, a2, a3⟩ := h1.st (ws := x) hz.symm hx
  exact ⟨σ2, a1, a2, ⟨by rw [a3.1]; exact Nat.le_succ _, fun c hc => by rw [a3.2 c (by omega)]; exact get_push_lt hc⟩, a3.1⟩
/-- A row of aggregates that is given away. -/
theorem _root_.Go.Abs.FnF.rowE {T : Tab} {f : FuncId} {v : AV} {cs : List AV} {e n c : Nat} (h : FnF T f [.lst n cs] v) {σ : St} {b : Nat} (hr : RowE σ b e cs) (hl : cs.length = n * e) (hf : mapO (frzV σ 5) cs = some cs) (h0 : cs.flatMap (rowsV σ 5) = []) (hc : n ≤ c) : ∃ σ', callI T f [.sl b 0 n c] σ = some (v, σ') ∧ But b σ σ' := by
  refine ⟨_, h σ [.sl b 0 n c] (mapO_cons (hr.frz (d := 4) hl hf hc) rfl), ?_⟩
  split
  · exact ⟨rfl, fun _ _ => rfl⟩
  · have : [AV.sl b 0 n c].flatMap (rowsV σ frzDepth) = [b] := by
      show rowsV σ frzDepth (.sl b 0 n c) ++ [] = [b]
      rw [List.append_nil, show frzDepth = 5 + 1 from rfl]
      obtain ⟨o, hg, _⟩ := hr
      have : getCells cs 0 (n * e) = some cs := by rw [getCells_eq, if_pos (by omega), List.drop_zero, List.take_of_length_le (by omega)]
      unfold rowsV
      simp only [hg, this, h0]
    rw [this]
    exact ⟨rfl, fun x hx => get_del_ne (fun e => hx e.symm)⟩
theorem flat_rows {α : Type} {f : α → List AV} {σ : St} {d : Nat} (hf : ∀ x, (f x).flatMap (rowsV σ d) = []) (l : List α) : (flat f l).flatMap (rowsV σ d) = [] := by
  induction l with
  | nil => rfl
  | cons x r ih => rw [flat, List.flatMap_cons, List.flatMap_append, hf]; exact ih
theorem mkRat_pos {n : Int} {d : Nat} (h : 0 ≤ n) : 0 ≤ mkRat n d := by rw [← Rat.divInt_ofNat]; exact Rat.divInt_nonneg h (Int.natCast_nonneg d)
/-- Sums. -/
def sumI (f : Nat → Rat) : Nat → Rat
  | 0 => 0
  | n + 1 => sumI f n + f n
def adQ (p q : List Rat) (i : Nat) : Rat := (p.getD i 0 - q.getD i 0).abs
def distQ (p q : List Rat) : Rat := sumI (adQ p q) p.length / 2
theorem getD_of {α : Type} {l : List α} {i : Nat} {d : α} (h : i < l.length) : l.getD i d = l[i] := by simp [List.getD_eq_getElem?_getD, h]
theorem adQ_of {p q : List Rat} {i : Nat} (h : i < p.length) (k : i < q.length) : adQ p q i = (p[i] - q[i]).abs := by rw [adQ, getD_of h, getD_of k]

noncomputable def b79 : Code := Try.f79.body.getD .skip
noncomputable def B79_0 : Code := (bodyC (bodyC (sndC (fstC (sndC (sndC b79))))))
noncomputable def K79_0 : List It := .lp B79_0 :: .blk 0 :: .code (sndC (sndC (sndC b79))) :: []
theorem xl79_0 {fi : FI} {env : Env} {σ : St} : exI TT fi K79_0 env σ = exI TT fi (.code B79_0 :: K79_0) env σ := by unfold K79_0; exact xI_lp
noncomputable def R79_0_0 : List It := .code (sndC (sndC (sndC b79))) :: []
theorem eK79_0_0 : exitA 0 K79_0 = some R79_0_0 := rfl
set_option maxHeartbeats 4000000 in
theorem s79 (n i b m b2 m2 : Nat) (cells x r : List AV) (σ σ2 σ3 σ4 : St) (hi : i < n) (l1 : cellsAt σ (.lp cells (i * 2)) 2 = some x) (hx : x.length = 2) (s1 : storeCellsA (σ.push ⟨[.int .i64 0, .int .i64 0], 2, false⟩) σ.n 0 x = some σ2) (l4 : cellsAt σ2 (.ptr σ.n 0) 2 = some x) (c1 : callI TT 72 [.agg x] σ2 = some (.agg r, σ2)) (c2 : buildSliceA TT σ2 104 1 [(0, .agg r)] = some (.sl σ2.n 0 1 1, σ3)) (c3 : appendA TT σ3 104 104 (.sl b 0 m m) (.sl σ2.n 0 1 1) = some (.sl b2 0 m2 m2, σ4)) (hw : wrapA .i64 ((i : Int) + 1) = (i : Int) + 1) :
    exI TT (FI.of Try.f79 (TT.an 79)) K79_0 [(3, .sl b 0 m m), (7, .lst n cells), (8, .int .i64 n), (9, .int .i64 i)] σ = exI TT (FI.of Try.f79 (TT.an 79)) K79_0 [(3, .sl b2 0 m2 m2), (7, .lst n cells), (8, .int .i64 n), (9, .int .i64 ((i : Int) + 1))] σ4 := by
  rw [fi79]
  conv => lhs; rw [xl79_0]
  simp only [B79_0, b79, Try.f79, Option.getD, fstC, sndC, bodyC, thnC, elsC]
  simp (maxSteps := 1000000) (disch := omega) [eK79_0_0, getCells, takeN, dropN, fieldAddrA, allOne, AV.one, n_push, putN, overN, blt_dec, buildA, sizesOf, fillA, putCells, List.take_succ_cons, List.take_zero, List.drop_succ_cons, List.drop_zero, List.nil_append, List.cons_append, List.length_cons, List.length_nil, eqvs_dgs, hi, l1, hx, s1, l4, c1, c2, c3, hw]
set_option maxHeartbeats 4000000 in
theorem e79 (n b m : Nat) (cells : List AV) (σ : St)  :
    exI TT (FI.of Try.f79 (TT.an 79)) K79_0 [(3, .sl b 0 m m), (7, .lst n cells), (8, .int .i64 n), (9, .int .i64 n)] σ = some (.sl b 0 m m, σ) := by
  rw [fi79]
  conv => lhs; rw [xl79_0]
  simp only [B79_0, b79, Try.f79, Option.getD, fstC, sndC, bodyC, thnC, elsC]
  simp (maxSteps := 1000000) (disch := omega) [eK79_0_0, cellsAt, getCells, takeN, dropN, fieldAddrA, allOne, AV.one, n_push, storeCellsA, putN, overN, St.push, St.get, St.set, hget, hset, blt_dec, buildA, sizesOf, fillA, putCells, List.take_succ_cons, List.take_zero, List.drop_succ_cons, List.drop_zero, List.nil_append, List.cons_append, List.length_cons, List.length_nil, eqvs_dgs]
  simp only [R79_0_0, b79, Try.f79, Option.getD, fstC, sndC, bodyC, thnC, elsC]
  simp (maxSteps := 1000000) (disch := omega) [eK79_0_0, cellsAt, getCells, takeN, dropN, fieldAddrA, allOne, AV.one, n_push, storeCellsA, putN, overN, St.push, St.get, St.set, hget, hset, blt_dec, buildA, sizesOf, fillA, putCells, List.take_succ_cons, List.take_zero, List.drop_succ_cons, List.drop_zero, List.nil_append, List.cons_append, List.length_cons, List.length_nil, eqvs_dgs]
set_option maxHeartbeats 4000000 in
theorem b79e (n : Nat) (cells : List AV) (σ1 : St) (c1 : buildSliceA TT ⟨[], 0⟩ 104 0 [] = some (.sl 0 0 0 0, σ1)) :
    exI TT (FI.of Try.f79 (TT.an 79)) [.code b79] (paramsE 0 [.lst n cells]) ⟨[], 0⟩ = exI TT (FI.of Try.f79 (TT.an 79)) K79_0 [(3, .sl 0 0 0 0), (7, .lst n cells), (8, .int .i64 n), (9, .int .i64 0)] σ1 := by
  rw [fi79]
  simp only [b79, Try.f79, Option.getD, fstC, sndC, bodyC, thnC, elsC]
  simp (maxSteps := 1000000) (disch := omega) [eK79_0_0, cellsAt, getCells, takeN, dropN, fieldAddrA, allOne, AV.one, n_push, storeCellsA, putN, overN, St.push, St.get, St.set, hget, hset, blt_dec, buildA, sizesOf, fillA, putCells, List.take_succ_cons, List.take_zero, List.drop_succ_cons, List.drop_zero, List.nil_append, List.cons_append, List.length_cons, List.length_nil, eqvs_dgs, c1]
  rfl
theorem l79 (l : List (Int × Int)) (hv : vfl l = true) (hs : l.length ≤ 1000000) : ∀ (m i b : Nat) (σ : St), i + m = l.length → RowE σ b 3 (flat RC ((l.take i).map rq)) →
    ∃ b' σ', exI TT (FI.of Try.f79 (TT.an 79)) K79_0 [(3, .sl b 0 i i), (7, FS l), (8, .int .i64 l.length), (9, .int .i64 i)] σ = some (.sl b' 0 l.length l.length, σ') ∧ RowE σ' b' 3 (flat RC (l.map rq)) := by
  intro m
  induction m with
  | zero =>
    intro i b σ hi hr
    obtain rfl : i = l.length := by omega
    rw [List.take_of_length_le (Nat.le_refl _)] at hr
    exact ⟨b, σ, e79 l.length b l.length (flat FC l) σ, hr⟩
  | succ m ih =>
    intro i b σ hi hr
    have hil : i < l.length := by omega
    have hvi : vfr l[i].1 l[i].2 = true := by
      simp only [vfl, List.all_eq_true] at hv
      exact hv _ (List.getElem_mem hil)
    obtain ⟨σ2, a1, a2, a3, a4⟩ := new_box (σ := σ) (z := [.int .i64 0, .int .i64 0]) (x := FC l[i]) (m := 2) rfl rfl
    have c1 := (r72 hvi).pure σ2 rfl rfl
    have c2 := build_el (T := TT) (σ := σ2) (st := 104) (w := RC (rq l[i])) ty104 ty92 (by decide) rfl rfl rfl
    have hr2 := hr.old a3
    obtain ⟨σ4, d1, d2, _⟩ := append_el (T := TT) (st := 104) (n := i) ty104 ty92 (fun _ _ => trivial) (by decide) (RC_len (rq l[i])) (RC_one _) (by rw [flat_len RC_len]; simp; omega) hr2 (by omega)
    have e : flat RC ((l.take i).map rq) ++ RC (rq l[i]) = flat RC ((l.take (i + 1)).map rq) := by
      rw [List.take_succ_eq_append_getElem hil, List.map_append, flat_app]; simp [flat]
    rw [e] at d2
    obtain ⟨b', σ', k1, k2⟩ := ih (i + 1) (σ2.n + 1) σ4 (by omega) d2
    refine ⟨b', σ', ?_, k2⟩
    rw [← k1]
    have hi1 : ((i + 1 : Nat) : Int) = (i : Int) + 1 := by omega
    rw [hi1]
    exact s79 l.length i b i (σ2.n + 1) (i + 1) (flat FC l) (FC l[i]) (RC (rq l[i])) σ σ2 _ σ4 hil (FS_get hil σ) rfl a1 (a2.rd rfl) c1 c2 d1 (wrapA_id (by omega) (by omega))
theorem r79 (l : List (Int × Int)) (hv : vfl l = true) (hs : l.length ≤ 1000000) : FnF TT 79 [FS l] (RS (l.map rq)) := by
  have hb := build_e0 (T := TT) (σ := ⟨[], 0⟩) (st := 104) ty104 ty92
  obtain ⟨b', σ', k1, k2⟩ := l79 l hv hs l.length 0 0 _ (by omega) (RowE.push (σ := ⟨[], 0⟩) (cs := []) (e := 3) (o := false))
  refine FnF.mk (c := b79) fn79 rfl md79 ⟨σ', _, (b79e _ _ _ hb).trans k1, ?_⟩
  have := k2.frz (d := 4) (n := l.length) (c := l.length) (by rw [flat_len RC_len]; simp) (flat_frz (fun v => RC_frz σ' 4 v) _) (Nat.le_refl _)
  rw [show RS (l.map rq) = .lst l.length (flat RC (l.map rq)) by simp [RS]]
  exact this

noncomputable def b78 : Code := Try.f78.body.getD .skip
noncomputable def B78_0 : Code := (bodyC (bodyC (sndC (fstC (sndC (sndC b78))))))
noncomputable def K78_0 : List It := .lp B78_0 :: .blk 0 :: .code (sndC (sndC (sndC b78))) :: []
theorem xl78_0 {fi : FI} {env : Env} {σ : St} : exI TT fi K78_0 env σ = exI TT fi (.code B78_0 :: K78_0) env σ := by unfold K78_0; exact xI_lp
noncomputable def R78_0_0 : List It := .code (sndC (sndC (sndC b78))) :: []
theorem eK78_0_0 : exitA 0 K78_0 = some R78_0_0 := rfl
set_option maxHeartbeats 4000000 in
theorem s78 (n i n2 : Nat) (cells cells2 x y s u v t : List AV) (σ σ2 σ3 : St) (hi : i < n) (hi2 : i < n2) (l1 : cellsAt σ (.lp cells (i * 3)) 3 = some x) (hx : x.length = 3) (s1 : storeCellsA (σ.push ⟨[.bool false, .nilS, .nilS], 3, false⟩) σ.n 0 x = some σ2) (l3 : cellsAt σ2 (.ptr 1 0) 3 = some s) (l4 : cellsAt σ2 (.ptr σ.n 0) 3 = some x) (l5 : cellsAt σ2 (.lp cells2 (i * 3)) 3 = some y) (c1 : callI TT 109 [.agg x, .agg y] σ2 = some (.agg u, σ2)) (c2 : callI TT 110 [.agg u] σ2 = some (.agg v, σ2)) (c3 : callI TT 85 [.agg s, .agg v] σ2 = some (.agg t, σ2)) (ht : t.length = 3) (s2 : storeCellsA σ2 1 0 t = some σ3) (hes : eqvs s s = true) (hw : wrapA .i64 ((i : Int) + 1) = (i : Int) + 1) :
    exI TT (FI.of Try.f78 (TT.an 78)) K78_0 [(1, .lst n2 cells2), (4, .ptr 0 0), (5, .ptr 1 0), (9, .lst n cells), (10, .int .i64 n), (11, .int .i64 i)] σ = exI TT (FI.of Try.f78 (TT.an 78)) K78_0 [(1, .lst n2 cells2), (4, .ptr 0 0), (5, .ptr 1 0), (9, .lst n cells), (10, .int .i64 n), (11, .int .i64 ((i : Int) + 1))] σ3 := by
  rw [fi78]
  conv => lhs; rw [xl78_0]
  simp only [B78_0, b78, Try.f78, Option.getD, fstC, sndC, bodyC, thnC, elsC]
  simp (maxSteps := 1000000) (disch := omega) [eK78_0_0, getCells, takeN, dropN, fieldAddrA, allOne, AV.one, n_push, putN, overN, blt_dec, buildA, sizesOf, fillA, putCells, List.take_succ_cons, List.take_zero, List.drop_succ_cons, List.drop_zero, List.nil_append, List.cons_append, List.length_cons, List.length_nil, eqvs_dgs, hi, hi2, l1, hx, s1, l3, l4, l5, c1, c2, c3, ht, s2, hes, hw]
set_option maxHeartbeats 4000000 in
theorem e78 (n n2 : Nat) (cells cells2 s o t : List AV) (σ σ1 : St) (l3 : cellsAt σ (.ptr 1 0) 3 = some s) (c1 : callI TT 84 [.int .i64 2] σ = some (.agg o, σ)) (c2 : callI TT 111 [.agg s, .agg o] σ = some (.agg t, σ)) (ht : t.length = 3) (s1 : storeCellsA σ 0 0 t = some σ1) (l4 : cellsAt σ1 (.ptr 0 0) 3 = some t) (hes : eqvs s s = true) :
    exI TT (FI.of Try.f78 (TT.an 78)) K78_0 [(1, .lst n2 cells2), (4, .ptr 0 0), (5, .ptr 1 0), (9, .lst n cells), (10, .int .i64 n), (11, .int .i64 n)] σ = some (.agg t, σ1) := by
  rw [fi78]
  conv => lhs; rw [xl78_0]
  simp only [B78_0, b78, Try.f78, Option.getD, fstC, sndC, bodyC, thnC, elsC]
  simp (maxSteps := 1000000) (disch := omega) [eK78_0_0, cellsAt, getCells, takeN, dropN, fieldAddrA, allOne, AV.one, n_push, storeCellsA, putN, overN, St.push, St.get, St.set, hget, hset, blt_dec, buildA, sizesOf, fillA, putCells, List.take_succ_cons, List.take_zero, List.drop_succ_cons, List.drop_zero, List.nil_append, List.cons_append, List.length_cons, List.length_nil, eqvs_dgs]
  simp only [R78_0_0, b78, Try.f78, Option.getD, fstC, sndC, bodyC, thnC, elsC]
  simp (maxSteps := 1000000) (disch := omega) [eK78_0_0, getCells, takeN, dropN, fieldAddrA, allOne, AV.one, n_push, putN, overN, blt_dec, buildA, sizesOf, fillA, putCells, List.take_succ_cons, List.take_zero, List.drop_succ_cons, List.drop_zero, List.nil_append, List.cons_append, List.length_cons, List.length_nil, eqvs_dgs, l3, c1, c2, ht, s1, l4, hes]
set_option maxHeartbeats 4000000 in
theorem b78e (n n2 : Nat) (cells cells2 o : List AV) (σ1 σ2 σ3 : St) (h1 : (⟨[], 0⟩ : St).push ⟨[.bool false, .nilS, .nilS], 3, false⟩ = σ1) (hn : σ1.n = 1) (c1 : callI TT 84 [.int .i64 0] σ1 = some (.agg o, σ1)) (ho : o.length = 3) (h2 : σ1.push ⟨[.bool false, .nilS, .nilS], 3, false⟩ = σ2) (s1 : storeCellsA σ2 1 0 o = some σ3) :
    exI TT (FI.of Try.f78 (TT.an 78)) [.code b78] (paramsE 0 [.lst n cells, .lst n2 cells2]) ⟨[], 0⟩ = exI TT (FI.of Try.f78 (TT.an 78)) K78_0 [(1, .lst n2 cells2), (4, .ptr 0 0), (5, .ptr 1 0), (9, .lst n cells), (10, .int .i64 n), (11, .int .i64 0)] σ3 := by
  rw [fi78]
  simp only [b78, Try.f78, Option.getD, fstC, sndC, bodyC, thnC, elsC]
  simp (maxSteps := 1000000) (disch := omega) [eK78_0_0, getCells, takeN, dropN, fieldAddrA, allOne, AV.one, n_push, putN, overN, blt_dec, buildA, sizesOf, fillA, putCells, List.take_succ_cons, List.take_zero, List.drop_succ_cons, List.drop_zero, List.nil_append, List.cons_append, List.length_cons, List.length_nil, eqvs_dgs, h1, hn, c1, ho, h2, s1]
  rfl
theorem l78 (p q : List Rat) (hpq : q.length = p.length) (k : Nat) (hp : ∀ x ∈ p, Bd k x) (hq : ∀ x ∈ q, Bd k x) (hk : (p.length + 1) * (2 * k + 3) ≤ 400000000) : ∀ (m i : Nat) (σ : St), i + m = p.length → Bx σ 1 (RC (sumI (adQ p q) i)) → Bd (2 + i * (2 * k + 2)) (sumI (adQ p q) i) → (∃ z, Bx σ 0 z ∧ z.length = 3) →
    ∃ σ', exI TT (FI.of Try.f78 (TT.an 78)) K78_0 [(1, RS q), (4, .ptr 0 0), (5, .ptr 1 0), (9, RS p), (10, .int .i64 p.length), (11, .int .i64 i)] σ = some (RT (distQ p q), σ') := by
  have hkk : p.length * (2 * k + 2) + (2 * k + 3) ≤ 400000000 := by
    have e : (p.length + 1) * (2 * k + 3) = p.length * (2 * k + 3) + (2 * k + 3) := by rw [Nat.add_mul, Nat.one_mul]
    have : p.length * (2 * k + 2) ≤ p.length * (2 * k + 3) := Nat.mul_le_mul_left _ (by omega)
    omega
  have hpl : p.length ≤ p.length * (2 * k + 2) := Nat.le_mul_of_pos_right _ (by omega)
  intro m
  induction m with
  | zero =>
    intro i σ hi hb hbd hz
    obtain rfl : i = p.length := by omega
    have co := (r84 (n := 2) (by decide) (by decide)).pure σ rfl rfl
    have b2 : Bd (2 + p.length * (2 * k + 2)) (mkRat 2 1) := (show Bd 2 (mkRat 2 1) from ⟨by decide, by decide⟩).mono (by omega)
    have cv := (r111 hbd b2 (by decide) (by omega)).pure σ rfl rfl
    obtain ⟨z, hz, hzl⟩ := hz
    obtain ⟨σ1, a1, a2, a3⟩ := hz.st (ws := RC (sumI (adQ p q) p.length / mkRat 2 1)) (by rw [hzl]; rfl) (RC_one _)
    exact ⟨σ1, e78 p.length q.length (flat RC p) (flat RC q) _ _ _ σ σ1 (hb.rd rfl) co cv rfl a1 (a2.rd rfl) (RC_eqv _)⟩
  | succ m ih =>
    intro i σ hi hb hbd hz
    have hil : i < p.length := by omega
    have hiq : i < q.length := by omega
    obtain ⟨σ2, a1, a2, a3, a4⟩ := new_box (σ := σ) (z := [.bool false, .nilS, .nilS]) (x := RC p[i]) (m := 3) rfl rfl
    have hb2 := hb.old a3
    obtain ⟨z, hz, hzl⟩ := hz
    have hz2 := hz.old a3
    have bp := hp _ (List.getElem_mem hil)
    have bq := hq _ (List.getElem_mem hiq)
    have cm := (r109 bp bq (by omega)).pure σ2 rfl rfl
    have bm := bp.sub bq
    have ca := (r110 (p[i] - q[i])).pure σ2 rfl rfl
    have hmul : i * (2 * k + 2) ≤ p.length * (2 * k + 2) := Nat.mul_le_mul_right _ (by omega)
    have cp := (r85 (hbd.mono (show _ ≤ 2 + i * (2 * k + 2) + (k + k + 1) by omega)) (bm.abs.mono (show _ ≤ 2 + i * (2 * k + 2) + (k + k + 1) by omega)) (by omega)).pure σ2 rfl rfl
    have hs : sumI (adQ p q) (i + 1) = sumI (adQ p q) i + (p[i] - q[i]).abs := by rw [sumI, adQ_of hil hiq]
    obtain ⟨σ3, d1, d2, d3⟩ := hb2.st (ws := RC (sumI (adQ p q) (i + 1))) rfl (RC_one _)
    have hbd2 : Bd (2 + (i + 1) * (2 * k + 2)) (sumI (adQ p q) (i + 1)) := by
      rw [hs]
      exact (hbd.add bm.abs).mono (by rw [Nat.add_mul]; omega)
    obtain ⟨σ', k1⟩ := ih (i + 1) σ3 (by omega) d2 hbd2 ⟨z, hz2.but (by decide) d3, hzl⟩
    have hi1 : ((i + 1 : Nat) : Int) = (i : Int) + 1 := by omega
    rw [hi1] at k1
    refine ⟨σ', ?_⟩
    rw [← k1]
    exact s78 p.length i q.length (flat RC p) (flat RC q) (RC p[i]) (RC q[i]) _ _ _ (RC (sumI (adQ p q) (i + 1))) σ σ2 σ3 hil hiq (RS_get hil σ) rfl a1 (hb2.rd rfl) (a2.rd rfl) (RS_get hiq σ2) cm ca (cp.trans (by rw [hs]; rfl)) rfl d1 (RC_eqv _) (wrapA_id (by omega) (by omega))
theorem r78 (p q : List Rat) (hpq : q.length = p.length) (k : Nat) (hp : ∀ x ∈ p, Bd k x) (hq : ∀ x ∈ q, Bd k x) (hk : (p.length + 1) * (2 * k + 3) ≤ 400000000) : FnF TT 78 [RS p, RS q] (RT (distQ p q)) := by
  have co := fun σ : St => (r84 (n := 0) (by decide) (by decide)).pure σ rfl rfl
  have hb1 : Bx (((⟨[], 0⟩ : St).push ⟨[.bool false, .nilS, .nilS], 3, false⟩).push ⟨[.bool false, .nilS, .nilS], 3, false⟩) 1 [.bool false, .nilS, .nilS] := Bx.push
  have hb0 : Bx (((⟨[], 0⟩ : St).push ⟨[.bool false, .nilS, .nilS], 3, false⟩).push ⟨[.bool false, .nilS, .nilS], 3, false⟩) 0 [.bool false, .nilS, .nilS] := Bx.push.old Old.push
  obtain ⟨σ3, a1, a2, a3⟩ := hb1.st (ws := RC (mkRat 0 1)) rfl (RC_one _)
  obtain ⟨σ', h1⟩ := l78 p q hpq k hp hq hk p.length 0 σ3 (by omega) a2 ((show Bd 2 (0 : Rat) from ⟨by decide +kernel, by decide +kernel⟩).mono (by omega)) ⟨_, hb0.but (by decide) a3, rfl⟩
  refine FnF.mkv (c := b78) fn78 rfl md78 ⟨σ', ?_⟩ (fun _ => rfl)
  refine Eq.trans ?_ h1
  exact b78e _ _ _ _ _ _ _ σ3 rfl rfl (co _) rfl rfl a1

theorem half_ok : (Wd.f 1 2).ok 60 ∧ (Wd.f 1 2).q = 1 / 2 := ⟨⟨by decide, Nat.le_refl _⟩, by rw [Wd.q_f]; decide +kernel⟩
theorem WS_get {l : List Wd} {i : Nat} (h : i < l.length) (σ : St) : cellsAt σ (.lp (flat WC l) (i * 6)) 6 = some (WC l[i]) := flat_get WC_len l i _ (List.getElem?_eq_getElem h)
theorem WC_eqv (v : Wd) : eqvs (WC v) (WC v) = true := by simp [WC, eqvs, AV.eqv, SB, eqvs_dgs]
theorem Wd.neg_q {v : Wd} (h : v.neg = true) : v.q ≤ 0 := by
  have : v.q = -mkRat (v.n : Int) v.d := by
    rw [Wd.q, h, show sg true v.n = -(v.n : Int) from rfl, Rat.neg_mkRat]
  rw [this]
  have h2 : 0 ≤ mkRat (v.n : Int) v.d := mkRat_pos (by omega)
  grind
theorem Wd.pos_q {v : Wd} (h : v.neg = false) : 0 ≤ v.q := by
  rw [Wd.q, h]
  exact mkRat_pos (by simp [sg])
/-- The absolute difference of the reference's fractions. -/
def wdiff (v w : Wd) : Wd := if (wadd v (wmul (.f (-1) 1) w)).neg = true then wmul (.f (-1) 1) (wadd v (wmul (.f (-1) 1) w)) else wadd v (wmul (.f (-1) 1) w)
theorem wsub_q {k j : Nat} {v w : Wd} (hv : v.ok k) (hw : w.ok j) : (wadd v (wmul (.f (-1) 1) w)).q = v.q - w.q ∧ (wadd v (wmul (.f (-1) 1) w)).ok (k + (60 + j) + 1) := by
  obtain ⟨n1, n2⟩ := neg1_q
  obtain ⟨q1, o1⟩ := wmul_q n2 hw
  obtain ⟨q2, o2⟩ := wadd_q hv o1
  refine ⟨?_, o2⟩
  rw [q2, q1, n1, Rat.neg_mul, Rat.one_mul, Rat.sub_eq_add_neg]
theorem wdiff_q {k j : Nat} {v w : Wd} (hv : v.ok k) (hw : w.ok j) : (wdiff v w).q = (v.q - w.q).abs ∧ (wdiff v w).ok (k + j + 121) := by
  obtain ⟨n1, n2⟩ := neg1_q
  obtain ⟨q1, o1⟩ := wsub_q hv hw
  unfold wdiff
  by_cases h : (wadd v (wmul (.f (-1) 1) w)).neg = true
  · rw [if_pos h]
    obtain ⟨q2, o2⟩ := wmul_q n2 o1
    refine ⟨?_, o2.mono (by omega)⟩
    have := Wd.neg_q h
    rw [q1] at this
    rw [q2, n1, q1, Rat.abs_of_nonpos this, Rat.neg_mul, Rat.one_mul]
  · rw [if_neg h]
    refine ⟨?_, o1.mono (by omega)⟩
    have := Wd.pos_q (by simpa using h)
    rw [q1] at this
    rw [q1, Rat.abs_of_nonneg this]
def atW (l : List Wd) (i : Nat) : Wd := l.getD i (.f 0 1)
def wdiffs (p q : List Wd) : Nat → List Wd
  | 0 => []
  | n + 1 => wdiffs p q n ++ [wdiff (atW p n) (atW q n)]
theorem wdiffs_len (p q : List Wd) : ∀ n, (wdiffs p q n).length = n
  | 0 => rfl
  | n + 1 => by rw [wdiffs, List.length_append, wdiffs_len p q n]; rfl
def wdist (p q : List Wd) : Wd := wlow (wmul (wsum (wdiffs p q p.length)) (.f 1 2))
theorem atW_of {l : List Wd} {i : Nat} (h : i < l.length) : atW l i = l[i] := getD_of h
theorem wdiffs_ok {k : Nat} {p q : List Wd} (hpq : q.length = p.length) (hp : ∀ x ∈ p, x.ok k) (hq : ∀ x ∈ q, x.ok k) : ∀ n, n ≤ p.length → (∀ x ∈ wdiffs p q n, x.ok (k + k + 121)) ∧ (wdiffs p q n).foldl (fun (x : Rat) w => x + w.q) 0 = sumI (adQ (p.map Wd.q) (q.map Wd.q)) n
  | 0, _ => ⟨by simp [wdiffs], rfl⟩
  | n + 1, h => by
    obtain ⟨h1, h2⟩ := wdiffs_ok hpq hp hq n (by omega)
    have hn : n < p.length := by omega
    have hn2 : n < q.length := by omega
    obtain ⟨q1, o1⟩ := wdiff_q (hp _ (List.getElem_mem hn)) (hq _ (List.getElem_mem hn2))
    rw [wdiffs, atW_of hn, atW_of hn2]
    refine ⟨?_, ?_⟩
    · intro x hx
      rcases List.mem_append.1 hx with hx | hx
      · exact h1 x hx
      · rw [List.mem_singleton.1 hx]; exact o1
    · rw [List.foldl_append, h2, sumI, adQ_of (i := n) (by simpa using hn) (by simpa using hn2)]
      simp [q1]
theorem wdist_q {k : Nat} {p q : List Wd} (hpq : q.length = p.length) (hp : ∀ x ∈ p, x.ok k) (hq : ∀ x ∈ q, x.ok k) : (wdist p q).q = distQ (p.map Wd.q) (q.map Wd.q) ∧ (wdist p q).ok (120 + p.length * (k + k + 121 + 1)) := by
  obtain ⟨h1, h2⟩ := wdiffs_ok hpq hp hq p.length (Nat.le_refl _)
  obtain ⟨q1, o1⟩ := wsum_q h1
  rw [wdiffs_len] at o1
  obtain ⟨hh, hq2⟩ := half_ok
  obtain ⟨q2, o2⟩ := wmul_q o1 hh
  obtain ⟨q3, o3⟩ := wlow_q o2
  refine ⟨?_, o3.mono (by omega)⟩
  rw [wdist, q3, q2, q1, hq2, h2, distQ, List.length_map, Rat.div_def, Rat.div_def, Rat.one_mul]

set_option maxHeartbeats 4000000 in
theorem k142 (x o t : List AV) (σ0 σ1 σ2 : St) (hx : x.length = 6) (hox : allOne x = true) (h1 : (⟨[], 0⟩ : St).push ⟨x, 6, false⟩ = σ0) (hn : σ0.n = 1) (h2 : σ0.push ⟨[.bool false, .nilS, .nilS, .bool false, .int .i64 0, .int .i64 0], 6, false⟩ = σ1) (l1 : cellsAt σ1 (.ptr 0 0) 6 = some x) (c1 : ∀ σ, callI TT 82 [.agg [.int .i64 1, .int .i64 2]] σ = some (.agg o, σ)) (c2 : ∀ σ, callI TT 81 [.agg x, .agg o] σ = some (.agg t, σ)) (ht : t.length = 6) (hex : eqvs x x = true) (ho : allOne t = true) (s1 : storeCellsA σ1 1 0 t = some σ2) (l2 : cellsAt σ2 (.ptr 1 0) 6 = some t) :
    ∃ σ', exI TT (FI.of Try.f142 (TT.an 142)) [.code (Try.f142.body.getD .skip)] (paramsE 0 [.agg x]) ⟨[], 0⟩ = some (.agg t, σ') := by
  refine ex1 ?_
  rw [fi142]
  simp only [Try.f142, Option.getD]
  simp (maxSteps := 1000000) (disch := omega) [getCells, takeN, dropN, fieldAddrA, allOne, AV.one, n_push, putN, overN, blt_dec, buildA, sizesOf, fillA, putCells, List.take_succ_cons, List.take_zero, List.drop_succ_cons, List.drop_zero, List.nil_append, List.cons_append, List.length_cons, List.length_nil, eqvs_dgs, hx, hox, h1, hn, h2, l1, c1, c2, ht, hex, ho, s1, l2]
theorem r142 {k : Nat} {v : Wd} (hv : v.ok k) (hk : 60 ≤ k) (hk2 : k ≤ 100000000) : FnF TT 142 [WA v] (WA (wmul v (.f 1 2))) := by
  obtain ⟨hh, _⟩ := half_ok
  have hb0 : Bx ((⟨[], 0⟩ : St).push ⟨WC v, 6, false⟩) 0 (WC v) := Bx.push
  obtain ⟨σ2, d1, d2, d3, d4⟩ := new_box (σ := (⟨[], 0⟩ : St).push ⟨WC v, 6, false⟩) (z := [.bool false, .nilS, .nilS, .bool false, .int .i64 0, .int .i64 0]) (x := WC (wmul v (.f 1 2))) (m := 6) rfl (WC_one _)
  exact FnF.mkv fn142 rfl md142 (k142 (WC v) _ _ _ _ σ2 rfl (WC_one _) rfl rfl rfl ((hb0.old Old.push).rd rfl) (fun σ => (r82 (n := 1) (d := 2) (by decide)).pure σ rfl rfl) (fun σ => (r81 hv (hh.mono hk) hk2).pure σ rfl rfl) rfl (WC_eqv v) (WC_one _) d1 (d2.rd rfl)) (fun _ => rfl)

noncomputable def b76 : Code := Try.f76.body.getD .skip
noncomputable def B76_0 : Code := (bodyC (bodyC (sndC (fstC (sndC (sndC b76))))))
noncomputable def K76_0 : List It := .lp B76_0 :: .blk 0 :: .code (sndC (sndC (sndC b76))) :: []
theorem xl76_0 {fi : FI} {env : Env} {σ : St} : exI TT fi K76_0 env σ = exI TT fi (.code B76_0 :: K76_0) env σ := by unfold K76_0; exact xI_lp
noncomputable def R76_0_0 : List It := .code (sndC (sndC (sndC b76))) :: []
theorem eK76_0_0 : exitA 0 K76_0 = some R76_0_0 := rfl
set_option maxHeartbeats 4000000 in
theorem s76p (n i n2 b m b2 m2 : Nat) (cells cells2 x y o u v : List AV) (σ σ2 σ3 σ4 : St) (hi : i < n) (hi2 : i < n2) (l1 : cellsAt σ (.lp cells (i * 6)) 6 = some x) (c1 : ∀ σ, callI TT 82 [.agg [.int .i64 (-1), .int .i64 1]] σ = some (.agg o, σ)) (l2 : cellsAt σ (.lp cells2 (i * 6)) 6 = some y) (c2 : callI TT 81 [.agg o, .agg y] σ = some (.agg u, σ)) (c3 : callI TT 141 [.agg x, .agg u] σ = some (.agg v, σ)) (hv : v.length = 6) (hex : eqvs x x = true) (hey : eqvs y y = true) (s1 : storeCellsA (σ.push ⟨[.bool false, .nilS, .nilS, .bool false, .int .i64 0, .int .i64 0], 6, false⟩) σ.n 0 v = some σ2) (l3 : cellsAt σ2 (.ptr σ.n 0) 1 = some [.bool false]) (l4 : cellsAt σ2 (.ptr σ.n 0) 6 = some v) (c4 : buildSliceA TT σ2 101 1 [(0, .agg v)] = some (.sl σ2.n 0 1 1, σ3)) (c5 : appendA TT σ3 101 101 (.sl b 0 m m) (.sl σ2.n 0 1 1) = some (.sl b2 0 m2 m2, σ4)) (hw : wrapA .i64 ((i : Int) + 1) = (i : Int) + 1) :
    exI TT (FI.of Try.f76 (TT.an 76)) K76_0 [(0, .lst n cells), (1, .lst n2 cells2), (4, .ptr 0 0), (5, .sl b 0 m m), (6, .int .i64 i)] σ = exI TT (FI.of Try.f76 (TT.an 76)) K76_0 [(0, .lst n cells), (1, .lst n2 cells2), (4, .ptr 0 0), (5, .sl b2 0 m2 m2), (6, .int .i64 ((i : Int) + 1))] σ4 := by
  rw [fi76]
  conv => lhs; rw [xl76_0]
  simp only [B76_0, b76, Try.f76, Option.getD, fstC, sndC, bodyC, thnC, elsC]
  simp (maxSteps := 1000000) (disch := omega) [eK76_0_0, getCells, takeN, dropN, fieldAddrA, allOne, AV.one, n_push, putN, overN, blt_dec, buildA, sizesOf, fillA, putCells, List.take_succ_cons, List.take_zero, List.drop_succ_cons, List.drop_zero, List.nil_append, List.cons_append, List.length_cons, List.length_nil, eqvs_dgs, hi, hi2, l1, c1, l2, c2, c3, hv, hex, hey, s1, l3, l4, c4, c5, hw]
set_option maxHeartbeats 4000000 in
theorem s76n (n i n2 b m b2 m2 : Nat) (cells cells2 x y o u v w : List AV) (σ σ2 σ3 σ4 σ5 : St) (hi : i < n) (hi2 : i < n2) (l1 : cellsAt σ (.lp cells (i * 6)) 6 = some x) (c1 : ∀ σ, callI TT 82 [.agg [.int .i64 (-1), .int .i64 1]] σ = some (.agg o, σ)) (l2 : cellsAt σ (.lp cells2 (i * 6)) 6 = some y) (c2 : callI TT 81 [.agg o, .agg y] σ = some (.agg u, σ)) (c3 : callI TT 141 [.agg x, .agg u] σ = some (.agg v, σ)) (hv : v.length = 6) (hex : eqvs x x = true) (hey : eqvs y y = true) (s1 : storeCellsA (σ.push ⟨[.bool false, .nilS, .nilS, .bool false, .int .i64 0, .int .i64 0], 6, false⟩) σ.n 0 v = some σ2) (l3 : cellsAt σ2 (.ptr σ.n 0) 1 = some [.bool true]) (l4 : cellsAt σ2 (.ptr σ.n 0) 6 = some v) (c6 : callI TT 81 [.agg o, .agg v] σ2 = some (.agg w, σ2)) (hw6 : w.length = 6) (s2 : storeCellsA σ2 σ.n 0 w = some σ3) (l5 : cellsAt σ3 (.ptr σ.n 0) 6 = some w) (hev : eqvs v v = true) (c4 : buildSliceA TT σ3 101 1 [(0, .agg w)] = some (.sl σ3.n 0 1 1, σ4)) (c5 : appendA TT σ4 101 101 (.sl b 0 m m) (.sl σ3.n 0 1 1) = some (.sl b2 0 m2 m2, σ5)) (hw : wrapA .i64 ((i : Int) + 1) = (i : Int) + 1) :
    exI TT (FI.of Try.f76 (TT.an 76)) K76_0 [(0, .lst n cells), (1, .lst n2 cells2), (4, .ptr 0 0), (5, .sl b 0 m m), (6, .int .i64 i)] σ = exI TT (FI.of Try.f76 (TT.an 76)) K76_0 [(0, .lst n cells), (1, .lst n2 cells2), (4, .ptr 0 0), (5, .sl b2 0 m2 m2), (6, .int .i64 ((i : Int) + 1))] σ5 := by
  rw [fi76]
  conv => lhs; rw [xl76_0]
  simp only [B76_0, b76, Try.f76, Option.getD, fstC, sndC, bodyC, thnC, elsC]
  simp (maxSteps := 1000000) (disch := omega) [eK76_0_0, getCells, takeN, dropN, fieldAddrA, allOne, AV.one, n_push, putN, overN, blt_dec, buildA, sizesOf, fillA, putCells, List.take_succ_cons, List.take_zero, List.drop_succ_cons, List.drop_zero, List.nil_append, List.cons_append, List.length_cons, List.length_nil, eqvs_dgs, hi, hi2, l1, c1, l2, c2, c3, hv, hex, hey, s1, l3, l4, c6, hw6, s2, l5, hev, c4, c5, hw]
set_option maxHeartbeats 4000000 in
theorem e76 (n n2 b m : Nat) (cells cells2 s t u : List AV) (σ σ0 σ1 : St) (c1 : callI TT 83 [.sl b 0 m m] σ = some (.agg s, σ0)) (c2 : callI TT 142 [.agg s] σ0 = some (.agg t, σ0)) (c3 : callI TT 139 [.agg t] σ0 = some (.agg u, σ0)) (hu : u.length = 6) (s1 : storeCellsA σ0 0 0 u = some σ1) (l4 : cellsAt σ1 (.ptr 0 0) 6 = some u) :
    exI TT (FI.of Try.f76 (TT.an 76)) K76_0 [(0, .lst n cells), (1, .lst n2 cells2), (4, .ptr 0 0), (5, .sl b 0 m m), (6, .int .i64 n)] σ = some (.agg u, σ1) := by
  rw [fi76]
  conv => lhs; rw [xl76_0]
  simp only [B76_0, b76, Try.f76, Option.getD, fstC, sndC, bodyC, thnC, elsC]
  simp (maxSteps := 1000000) (disch := omega) [eK76_0_0, cellsAt, getCells, takeN, dropN, fieldAddrA, allOne, AV.one, n_push, storeCellsA, putN, overN, St.push, St.get, St.set, hget, hset, blt_dec, buildA, sizesOf, fillA, putCells, List.take_succ_cons, List.take_zero, List.drop_succ_cons, List.drop_zero, List.nil_append, List.cons_append, List.length_cons, List.length_nil, eqvs_dgs]
  simp only [R76_0_0, b76, Try.f76, Option.getD, fstC, sndC, bodyC, thnC, elsC]
  simp (maxSteps := 1000000) (disch := omega) [eK76_0_0, getCells, takeN, dropN, fieldAddrA, allOne, AV.one, n_push, putN, overN, blt_dec, buildA, sizesOf, fillA, putCells, List.take_succ_cons, List.take_zero, List.drop_succ_cons, List.drop_zero, List.nil_append, List.cons_append, List.length_cons, List.length_nil, eqvs_dgs, c1, c2, c3, hu, s1, l4]
set_option maxHeartbeats 4000000 in
theorem b76e (n n2 : Nat) (cells cells2 : List AV) (σ1 σ2 : St) (h1 : (⟨[], 0⟩ : St).push ⟨[.bool false, .nilS, .nilS, .bool false, .int .i64 0, .int .i64 0], 6, false⟩ = σ1) (c1 : buildSliceA TT σ1 101 0 [] = some (.sl 1 0 0 0, σ2)) :
    exI TT (FI.of Try.f76 (TT.an 76)) [.code b76] (paramsE 0 [.lst n cells, .lst n2 cells2]) ⟨[], 0⟩ = exI TT (FI.of Try.f76 (TT.an 76)) K76_0 [(0, .lst n cells), (1, .lst n2 cells2), (4, .ptr 0 0), (5, .sl 1 0 0 0), (6, .int .i64 0)] σ2 := by
  rw [fi76]
  simp only [b76, Try.f76, Option.getD, fstC, sndC, bodyC, thnC, elsC]
  simp (maxSteps := 1000000) (disch := omega) [eK76_0_0, getCells, takeN, dropN, fieldAddrA, allOne, AV.one, n_push, putN, overN, blt_dec, buildA, sizesOf, fillA, putCells, List.take_succ_cons, List.take_zero, List.drop_succ_cons, List.drop_zero, List.nil_append, List.cons_append, List.length_cons, List.length_nil, eqvs_dgs, h1, c1]
  rfl
theorem Bx.keep4 {σ σ' : St} {b c : Nat} {vs : List AV} (h : Bx σ c vs) (hc : c ≠ b) (k : ∀ x, x ≠ b → x < σ.n → σ'.get x = σ.get x) (hn : σ.n < σ'.n) : Bx σ' c vs := by
  obtain ⟨⟨m, hg⟩, hlt⟩ := h
  exact ⟨⟨m, by rw [k c hc hlt]; exact hg⟩, by omega⟩
theorem WS_frz (σ : St) (d : Nat) (l : List Wd) : mapO (frzV σ (d + 1)) (flat WC l) = some (flat WC l) := flat_frz (fun v => WC_frz σ d v) _
theorem l76 (p q : List Wd) (hpq : q.length = p.length) (k : Nat) (hp : ∀ x ∈ p, x.ok k) (hq : ∀ x ∈ q, x.ok k) (hk60 : 60 ≤ k) (hk : (p.length + 2) * (2 * k + 200) ≤ 80000000) : ∀ (m i b : Nat) (σ : St), i + m = p.length → 0 < b → RowE σ b 6 (flat WC (wdiffs p q i)) → (∃ z, Bx σ 0 z ∧ z.length = 6) →
    ∃ σ', exI TT (FI.of Try.f76 (TT.an 76)) K76_0 [(0, WS p), (1, WS q), (4, .ptr 0 0), (5, .sl b 0 i i), (6, .int .i64 i)] σ = some (WA (wdist p q), σ') := by
  have hkk : p.length * (2 * k + 200) + (4 * k + 400) ≤ 80000000 := by
    have e : (p.length + 2) * (2 * k + 200) = p.length * (2 * k + 200) + (4 * k + 400) := by rw [Nat.add_mul]; omega
    omega
  have hpl : p.length ≤ p.length * (2 * k + 200) := Nat.le_mul_of_pos_right _ (by omega)
  have hpm : p.length * (k + k + 121 + 1) ≤ p.length * (2 * k + 200) := Nat.mul_le_mul_left _ (by omega)
  intro m
  induction m with
  | zero =>
    intro i b σ hi hb0 hr hz
    obtain rfl : i = p.length := by omega
    obtain ⟨h1, h2⟩ := wdiffs_ok hpq hp hq p.length (Nat.le_refl _)
    have hs := r83 (wdiffs p q p.length) h1 (by rw [wdiffs_len]; omega)
    have hws : WS (wdiffs p q p.length) = .lst p.length (flat WC (wdiffs p q p.length)) := by rw [WS, wdiffs_len]
    rw [hws] at hs
    obtain ⟨σ0, cs, hbut⟩ := hs.rowE hr (by rw [flat_len WC_len, wdiffs_len]) (WS_frz σ 4 _) (flat_rows (fun _ => rfl) _) (Nat.le_refl _)
    obtain ⟨q1, o1⟩ := wsum_q h1
    rw [wdiffs_len] at o1
    obtain ⟨hh, hq2⟩ := half_ok
    obtain ⟨q2, o2⟩ := wmul_q o1 hh
    obtain ⟨z, hz, hzl⟩ := hz
    have hz0 := hz.but (b := b) (by omega) hbut
    have ch := (r142 o1 (by omega) (by omega)).pure σ0 rfl rfl
    have cl := (r139 o2 (by omega)).pure σ0 rfl rfl
    obtain ⟨σ1, a1, a2, a3⟩ := hz0.st (ws := WC (wdist p q)) (by rw [hzl]; rfl) (WC_one _)
    exact ⟨σ1, e76 p.length q.length b p.length (flat WC p) (flat WC q) _ _ _ σ σ0 σ1 cs ch cl rfl a1 (a2.rd rfl)⟩
  | succ m ih =>
    intro i b σ hi hb0 hr hz
    have hil : i < p.length := by omega
    have hiq : i < q.length := by omega
    have hvp := hp _ (List.getElem_mem hil)
    have hvq := hq _ (List.getElem_mem hiq)
    obtain ⟨n1, n2⟩ := neg1_q
    have co := fun σ : St => (r82 (n := -1) (d := 1) (by decide)).pure σ rfl rfl
    have cm := (r81 (n2.mono hk60) hvq (by omega)).pure σ rfl rfl
    obtain ⟨_, om⟩ := wmul_q n2 hvq
    have ca := (r141 (hvp.mono (show k ≤ 60 + k by omega)) om (by omega)).pure σ rfl rfl
    obtain ⟨_, oa⟩ := wsub_q hvp hvq
    have hcat : flat WC (wdiffs p q i) ++ WC (wdiff p[i] q[i]) = flat WC (wdiffs p q (i + 1)) := by
      rw [wdiffs, atW_of hil, atW_of hiq, flat_app]; simp [flat]
    have hi1 : ((i + 1 : Nat) : Int) = (i : Int) + 1 := by omega
    obtain ⟨z, hz, hzl⟩ := hz
    obtain ⟨σ2, a1, a2, a3, a4⟩ := new_box (σ := σ) (z := [.bool false, .nilS, .nilS, .bool false, .int .i64 0, .int .i64 0]) (x := WC (wadd p[i] (wmul (.f (-1) 1) q[i]))) (m := 6) rfl (WC_one _)
    have hr2 := hr.old a3
    have hz2 := hz.old a3
    have hneg : cellsAt σ2 (.ptr σ.n 0) 1 = some [.bool (wadd p[i] (wmul (.f (-1) 1) q[i])).neg] := by
      obtain ⟨⟨mm, hg⟩, _⟩ := a2
      simp [cellsAt, hg, getCells, dropN, takeN, WC]
    cases hng : (wadd p[i] (wmul (.f (-1) 1) q[i])).neg with
    | false =>
      rw [hng] at hneg
      have hd : wdiff p[i] q[i] = wadd p[i] (wmul (.f (-1) 1) q[i]) := by unfold wdiff; rw [if_neg (by rw [hng]; decide)]
      rw [hd] at hcat
      have c4 := build_el (T := TT) (σ := σ2) (st := 101) (w := WC (wadd p[i] (wmul (.f (-1) 1) q[i]))) ty101 ty99 (by decide) rfl rfl rfl
      obtain ⟨σ4, d1, d2, d3⟩ := append_el (T := TT) (st := 101) (n := i) ty101 ty99 (fun _ _ => trivial) (by decide) (WC_len (wadd p[i] (wmul (.f (-1) 1) q[i]))) (WC_one _) (by rw [flat_len WC_len, wdiffs_len]) hr2 (by omega)
      rw [hcat] at d2
      obtain ⟨σ', k1⟩ := ih (i + 1) (σ2.n + 1) σ4 (by omega) (by omega) d2 ⟨z, hz2.keep4 (by omega) d3 (Nat.lt_of_succ_lt d2.lt), hzl⟩
      rw [hi1] at k1
      refine ⟨σ', ?_⟩
      rw [← k1]
      exact s76p p.length i q.length b i (σ2.n + 1) (i + 1) (flat WC p) (flat WC q) (WC p[i]) (WC q[i]) _ _ _ σ σ2 _ σ4 hil hiq (WS_get hil σ) co (WS_get hiq σ) cm ca rfl (WC_eqv _) (WC_eqv _) a1 hneg (a2.rd rfl) c4 d1 (wrapA_id (by omega) (by omega))
    | true =>
      rw [hng] at hneg
      have hd : wdiff p[i] q[i] = wmul (.f (-1) 1) (wadd p[i] (wmul (.f (-1) 1) q[i])) := by unfold wdiff; rw [if_pos hng]
      rw [hd] at hcat
      have cm2 := (r81 (n2.mono (show 60 ≤ k + (60 + k) + 1 by omega)) oa (by omega)).pure σ2 rfl rfl
      obtain ⟨σ3, e1, e2, e3⟩ := a2.st (ws := WC (wmul (.f (-1) 1) (wadd p[i] (wmul (.f (-1) 1) q[i])))) rfl (WC_one _)
      have hbl := hr.lt
      have hzl0 := hz.lt
      have hr3 := hr2.but (by omega) e3
      have hz3 := hz2.but (by omega) e3
      have c4 := build_el (T := TT) (σ := σ3) (st := 101) (w := WC (wmul (.f (-1) 1) (wadd p[i] (wmul (.f (-1) 1) q[i])))) ty101 ty99 (by decide) rfl rfl rfl
      obtain ⟨σ4, d1, d2, d3⟩ := append_el (T := TT) (st := 101) (n := i) ty101 ty99 (fun _ _ => trivial) (by decide) (WC_len (wmul (.f (-1) 1) (wadd p[i] (wmul (.f (-1) 1) q[i])))) (WC_one _) (by rw [flat_len WC_len, wdiffs_len]) hr3 (by omega)
      rw [hcat] at d2
      obtain ⟨σ', k1⟩ := ih (i + 1) (σ3.n + 1) σ4 (by omega) (by omega) d2 ⟨z, hz3.keep4 (by omega) d3 (Nat.lt_of_succ_lt d2.lt), hzl⟩
      rw [hi1] at k1
      refine ⟨σ', ?_⟩
      rw [← k1]
      exact s76n p.length i q.length b i (σ3.n + 1) (i + 1) (flat WC p) (flat WC q) (WC p[i]) (WC q[i]) _ _ _ _ σ σ2 σ3 _ σ4 hil hiq (WS_get hil σ) co (WS_get hiq σ) cm ca rfl (WC_eqv _) (WC_eqv _) a1 hneg (a2.rd rfl) cm2 rfl e1 (e2.rd rfl) (WC_eqv _) c4 d1 (wrapA_id (by omega) (by omega))
theorem r76 (p q : List Wd) (hpq : q.length = p.length) (k : Nat) (hp : ∀ x ∈ p, x.ok k) (hq : ∀ x ∈ q, x.ok k) (hk60 : 60 ≤ k) (hk : (p.length + 2) * (2 * k + 200) ≤ 80000000) : FnF TT 76 [WS p, WS q] (WA (wdist p q)) := by
  have hb := build_e0 (T := TT) (σ := (⟨[], 0⟩ : St).push ⟨[.bool false, .nilS, .nilS, .bool false, .int .i64 0, .int .i64 0], 6, false⟩) (st := 101) ty101 ty99
  have hz : Bx ((⟨[], 0⟩ : St).push ⟨[.bool false, .nilS, .nilS, .bool false, .int .i64 0, .int .i64 0], 6, false⟩) 0 [.bool false, .nilS, .nilS, .bool false, .int .i64 0, .int .i64 0] := Bx.push
  obtain ⟨σ', k1⟩ := l76 p q hpq k hp hq hk60 hk p.length 0 1 _ (by omega) (by omega) (RowE.push (σ := (⟨[], 0⟩ : St).push ⟨[.bool false, .nilS, .nilS, .bool false, .int .i64 0, .int .i64 0], 6, false⟩) (cs := []) (e := 6) (o := false)) ⟨_, hz.old Old.push, rfl⟩
  refine FnF.mkv (c := b76) fn76 rfl md76 ⟨σ', ?_⟩ (fun _ => rfl)
  exact (b76e _ _ _ _ _ _ rfl hb).trans k1

def frF : AV := .tup [.agg [.int .i64 0, .int .i64 0], .bool false]
theorem frA_is (q : Rat) : ∃ a b c, frA q = .tup [.agg [.int .i64 a, .int .i64 b], .bool c] := by
  unfold frA
  split <;> exact ⟨_, _, _, rfl⟩
theorem frA_frz (q : Rat) (σ : St) : frzV σ frzDepth (frA q) = some (frA q) := by
  obtain ⟨a, b, c, h⟩ := frA_is q
  rw [h]; rfl
theorem frA_scal (q : Rat) : (frA q).scal = true := by
  obtain ⟨a, b, c, h⟩ := frA_is q
  rw [h]; rfl
theorem isCh_b {l : List (Int × Int)} (h : isCh l = true) : 1 ≤ l.length ∧ l.length ≤ 16 ∧ vfl l = true ∧ (∀ x ∈ l, 0 ≤ x.1) ∧ sumQ l = 1 := by
  simp only [isCh, Bool.and_eq_true, decide_eq_true_eq, List.all_eq_true] at h
  exact ⟨h.1.1, h.1.2, h.2.1, h.2.2.1, h.2.2.2⟩
theorem rq_bds {l : List (Int × Int)} (h : vfl l = true) : ∀ x ∈ l.map rq, Bd 60 x := by
  intro x hx
  obtain ⟨y, hy, rfl⟩ := List.mem_map.1 hx
  simp only [vfl, List.all_eq_true] at h
  exact rq_bd (h y hy)
theorem distQ_bd {p q : List Rat} {k : Nat} (hpq : q.length = p.length) (hp : ∀ x ∈ p, Bd k x) (hq : ∀ x ∈ q, Bd k x) : Bd (4 + p.length * (2 * k + 2)) (distQ p q) := by
  have h : ∀ n, n ≤ p.length → Bd (2 + n * (2 * k + 2)) (sumI (adQ p q) n) := by
    intro n
    induction n with
    | zero => intro _; exact (show Bd 2 (0 : Rat) from ⟨by decide +kernel, by decide +kernel⟩).mono (by omega)
    | succ n ih =>
      intro hn
      have h1 : n < p.length := by omega
      have h2 : n < q.length := by omega
      rw [sumI, adQ_of h1 h2]
      exact ((ih (by omega)).add ((hp _ (List.getElem_mem h1)).sub (hq _ (List.getElem_mem h2))).abs).mono (by rw [Nat.add_mul]; omega)
  have h2 : Bd 2 ((2 : Rat)⁻¹) := ⟨by decide +kernel, by decide +kernel⟩
  rw [distQ, Rat.div_def]
  exact ((h p.length (Nat.le_refl _)).mul h2).mono (by omega)
theorem map_wof_q (l : List (Int × Int)) : (l.map wof).map Wd.q = l.map rq := by
  rw [List.map_map]
  exact List.map_congr_left fun x _ => Wd.q_f _ _
set_option maxHeartbeats 4000000 in
theorem k6 (n1 n2 : Nat) (cells1 cells2 : List AV) (k1 : Int) (k2 : Int) (a b : Int) (c : Bool) (z1 : ∀ σ, callI TT 14 [.lst n1 cells1, .int .i64 1048576] σ = some (.int .i64 k1, σ)) (hk1 : 0 ≤ k1) (z2 : ∀ σ, callI TT 14 [.lst n2 cells2, .int .i64 k1] σ = some (.int .i64 k2, σ)) (hk2 : 0 ≤ k2) (t1 : ∀ σ, callI TT 16 [.lst n1 cells1] σ = some (.lst n1 cells1, σ)) (e1 : ∀ σ, callI TT 18 [.lst n1 cells1, .lst n1 cells1] σ = some (.bool true, σ)) (t2 : ∀ σ, callI TT 16 [.lst n2 cells2] σ = some (.lst n2 cells2, σ)) (e2 : ∀ σ, callI TT 18 [.lst n2 cells2, .lst n2 cells2] σ = some (.bool true, σ)) (cS : ∀ σ, callI TT 27 [.lst n1 cells1, .lst n2 cells2] σ = some (.tup [.agg [.int .i64 a, .int .i64 b], .bool c], σ)) (cI : ∀ σ, callI TT 28 [.lst n1 cells1, .lst n2 cells2] σ = some (.tup [.agg [.int .i64 a, .int .i64 b], .bool c], σ)) (cE : ∀ σ, callI TT 26 [.agg [.int .i64 a, .int .i64 b], .agg [.int .i64 a, .int .i64 b]] σ = some (.bool true, σ)) :
    ∃ σ', exI TT (FI.of Try.f6 (TT.an 6)) [.code (Try.f6.body.getD .skip)] (paramsE 0 [.lst n1 cells1, .lst n2 cells2]) ⟨[], 0⟩ = some (.bool true, σ') := by
  refine ex1 ?_
  rw [fi6]
  simp only [Try.f6, Option.getD]
  cases c <;>
  simp (maxSteps := 1000000) (disch := omega) [cellsAt, getCells, takeN, dropN, fieldAddrA, allOne, AV.one, n_push, storeCellsA, putN, overN, St.push, St.get, St.set, hget, hset, blt_dec, buildA, sizesOf, fillA, putCells, List.take_succ_cons, List.take_zero, List.drop_succ_cons, List.drop_zero, List.nil_append, List.cons_append, List.length_cons, List.length_nil, eqvs_dgs, z1, hk1, z2, hk2, t1, e1, t2, e2, cS, cI, cE]
/-- Lists of lists. -/
def F1 (r : List (Int × Int)) : List AV := [FS r]
def FSS (ls : List (List (Int × Int))) : AV := .lst ls.length (flat F1 ls)
theorem F1_len (r : List (Int × Int)) : (F1 r).length = 1 := rfl
theorem flat1_get {α : Type} {f : α → AV} {l : List α} {i : Nat} (h : i < l.length) (σ : St) : cellsAt σ (.lp (flat (fun x => [f x]) l) i) 1 = some [f l[i]] := by
  have := flat_get (f := fun x => [f x]) (w := 1) (fun _ => rfl) l i _ (List.getElem?_eq_getElem h)
  rw [Nat.mul_one] at this
  exact this
theorem FSS_get {ls : List (List (Int × Int))} {i : Nat} (h : i < ls.length) (σ : St) : cellsAt σ (.lp (flat F1 ls) i) 1 = some [FS ls[i]] := flat1_get h σ
theorem build_v {T : Tab} {σ : St} {st e : TypeId} {k : TK} {y : Nat} {z : List AV} {v : AV} (ht : T.ty st = some ⟨.slice e, 1, 24, [.nilS]⟩) (he : T.ty e = some ⟨k, 1, y, z⟩) (hv : v.cellsOf = [v]) (hz : z.length = 1) (h1 : v.one = true) : buildSliceA T σ st 1 [(0, v)] = some (.sl σ.n 0 1 1, σ.push ⟨[v], 1, false⟩) := by
  have hp : putCells (z ++ []) (0 * 1) [v] = [v] := by
    rw [List.append_nil, Nat.zero_mul, putCells, List.take_zero, List.nil_append, Nat.zero_add, List.drop_of_length_le (by simp [hz]), List.append_nil]
  simp only [buildSliceA, ht, he, repeatCells, fillA, hv]
  rw [if_pos (by omega)]
  rw [List.append_nil, Nat.zero_mul] at hp
  simp [allOne, h1, hz, hp]

noncomputable def b60 : Code := Try.f60.body.getD .skip
noncomputable def B60_0 : Code := (bodyC (bodyC (sndC (fstC (sndC (sndC (sndC b60)))))))
noncomputable def K60_0 : List It := .lp B60_0 :: .blk 0 :: .code (sndC (sndC (sndC (sndC b60)))) :: []
theorem xl60_0 {fi : FI} {env : Env} {σ : St} : exI TT fi K60_0 env σ = exI TT fi (.code B60_0 :: K60_0) env σ := by unfold K60_0; exact xI_lp
noncomputable def R60_0_0 : List It := .code (sndC (sndC (sndC (sndC b60)))) :: []
theorem eK60_0_0 : exitA 0 K60_0 = some R60_0_0 := rfl
set_option maxHeartbeats 4000000 in
theorem s60p (n i m : Nat) (cells r : List AV) (k z : Int) (σ : St) (hi : i < n) (l1 : cellsAt σ (.lp cells i) 1 = some [.lst m r]) (c1 : callI TT 14 [.lst m r, .int .i64 k] σ = some (.int .i64 z, σ)) (hz : 0 ≤ z) (hw : wrapA .i64 ((i : Int) + 1) = (i : Int) + 1) :
    exI TT (FI.of Try.f60 (TT.an 60)) K60_0 [(0, .lst n cells), (1, .int .i64 k), (5, .int .i64 i)] σ = exI TT (FI.of Try.f60 (TT.an 60)) K60_0 [(0, .lst n cells), (1, .int .i64 z), (5, .int .i64 ((i : Int) + 1))] σ := by
  rw [fi60]
  conv => lhs; rw [xl60_0]
  simp only [B60_0, b60, Try.f60, Option.getD, fstC, sndC, bodyC, thnC, elsC]
  simp (maxSteps := 1000000) (disch := omega) [eK60_0_0, getCells, takeN, dropN, fieldAddrA, allOne, AV.one, n_push, putN, overN, blt_dec, buildA, sizesOf, fillA, putCells, List.take_succ_cons, List.take_zero, List.drop_succ_cons, List.drop_zero, List.nil_append, List.cons_append, List.length_cons, List.length_nil, eqvs_dgs, hi, l1, c1, hz, hw]
set_option maxHeartbeats 4000000 in
theorem s60n (n i m : Nat) (cells r : List AV) (k z : Int) (σ : St) (hi : i < n) (l1 : cellsAt σ (.lp cells i) 1 = some [.lst m r]) (c1 : callI TT 14 [.lst m r, .int .i64 k] σ = some (.int .i64 z, σ)) (hz : z < 0) :
    exI TT (FI.of Try.f60 (TT.an 60)) K60_0 [(0, .lst n cells), (1, .int .i64 k), (5, .int .i64 i)] σ = some (.int .i64 (-1), σ) := by
  rw [fi60]
  conv => lhs; rw [xl60_0]
  simp only [B60_0, b60, Try.f60, Option.getD, fstC, sndC, bodyC, thnC, elsC]
  simp (maxSteps := 1000000) (disch := omega) [eK60_0_0, getCells, takeN, dropN, fieldAddrA, allOne, AV.one, n_push, putN, overN, blt_dec, buildA, sizesOf, fillA, putCells, List.take_succ_cons, List.take_zero, List.drop_succ_cons, List.drop_zero, List.nil_append, List.cons_append, List.length_cons, List.length_nil, eqvs_dgs, hi, l1, c1, hz]
set_option maxHeartbeats 4000000 in
theorem e60 (n : Nat) (cells : List AV) (k : Int) (σ : St)  :
    exI TT (FI.of Try.f60 (TT.an 60)) K60_0 [(0, .lst n cells), (1, .int .i64 k), (5, .int .i64 n)] σ = some (.int .i64 k, σ) := by
  rw [fi60]
  conv => lhs; rw [xl60_0]
  simp only [B60_0, b60, Try.f60, Option.getD, fstC, sndC, bodyC, thnC, elsC]
  simp (maxSteps := 1000000) (disch := omega) [eK60_0_0, getCells, takeN, dropN, fieldAddrA, allOne, AV.one, n_push, putN, overN, blt_dec, buildA, sizesOf, fillA, putCells, List.take_succ_cons, List.take_zero, List.drop_succ_cons, List.drop_zero, List.nil_append, List.cons_append, List.length_cons, List.length_nil, eqvs_dgs]
  simp only [R60_0_0, b60, Try.f60, Option.getD, fstC, sndC, bodyC, thnC, elsC]
  simp (maxSteps := 1000000) (disch := omega) [eK60_0_0, getCells, takeN, dropN, fieldAddrA, allOne, AV.one, n_push, putN, overN, blt_dec, buildA, sizesOf, fillA, putCells, List.take_succ_cons, List.take_zero, List.drop_succ_cons, List.drop_zero, List.nil_append, List.cons_append, List.length_cons, List.length_nil, eqvs_dgs]
set_option maxHeartbeats 4000000 in
theorem b60n (n : Nat) (cells : List AV) (k z : Int) (σ : St) (hk : wrapA .i64 (k - n) = z) (hz : z < 0) :
    exI TT (FI.of Try.f60 (TT.an 60)) [.code b60] (paramsE 0 [.lst n cells, .int .i64 k]) σ = some (.int .i64 (-1), σ) := by
  rw [fi60]
  simp only [b60, Try.f60, Option.getD, fstC, sndC, bodyC, thnC, elsC]
  simp (maxSteps := 1000000) (disch := omega) [eK60_0_0, getCells, takeN, dropN, fieldAddrA, allOne, AV.one, n_push, putN, overN, blt_dec, buildA, sizesOf, fillA, putCells, List.take_succ_cons, List.take_zero, List.drop_succ_cons, List.drop_zero, List.nil_append, List.cons_append, List.length_cons, List.length_nil, eqvs_dgs, hk, hz]
set_option maxHeartbeats 4000000 in
theorem b60p (n : Nat) (cells : List AV) (k z : Int) (σ : St) (hk : wrapA .i64 (k - n) = z) (hz : 0 ≤ z) :
    exI TT (FI.of Try.f60 (TT.an 60)) [.code b60] (paramsE 0 [.lst n cells, .int .i64 k]) σ = exI TT (FI.of Try.f60 (TT.an 60)) K60_0 [(0, .lst n cells), (1, .int .i64 z), (5, .int .i64 0)] σ := by
  rw [fi60]
  simp only [b60, Try.f60, Option.getD, fstC, sndC, bodyC, thnC, elsC]
  simp (maxSteps := 1000000) (disch := omega) [eK60_0_0, getCells, takeN, dropN, fieldAddrA, allOne, AV.one, n_push, putN, overN, blt_dec, buildA, sizesOf, fillA, putCells, List.take_succ_cons, List.take_zero, List.drop_succ_cons, List.drop_zero, List.nil_append, List.cons_append, List.length_cons, List.length_nil, eqvs_dgs, hk, hz]
  rfl
theorem l60 (ls : List (List (Int × Int))) (hn : ls.length ≤ maxLen) (hr : ∀ r ∈ ls, r.length ≤ maxLen) (k : Nat) (hk : k ≤ 1048576) (σ : St) : ∀ (m i left : Nat), i + m = ls.length → left ≤ k →
    ∃ z : Int, exI TT (FI.of Try.f60 (TT.an 60)) K60_0 [(0, FSS ls), (1, .int .i64 left), (5, .int .i64 i)] σ = some (.int .i64 z, σ) ∧ (0 ≤ z → ∀ r ∈ ls.drop i, r.length ≤ k) := by
  intro m
  induction m with
  | zero =>
    intro i left hi hle
    obtain rfl : i = ls.length := by omega
    exact ⟨_, e60 ls.length (flat F1 ls) left σ, by rw [List.drop_of_length_le (Nat.le_refl _)]; simp⟩
  | succ m ih =>
    intro i left hi hle
    have hil : i < ls.length := by omega
    have hi1 : ((i + 1 : Nat) : Int) = (i : Int) + 1 := by omega
    have hm : ls[i].length ≤ 9223372036854775807 := by have := hr _ (List.getElem_mem hil); unfold maxLen at this; omega
    have hw : wrapA .i64 ((i : Int) + 1) = (i : Int) + 1 := wrapA_id (by omega) (by unfold maxLen at hn; omega)
    have c1 := r14 ls[i] left (by omega) hm σ [FS ls[i], .int .i64 left] rfl
    by_cases h : left < ls[i].length
    · rw [if_pos h] at c1
      exact ⟨-1, s60n ls.length i _ (flat F1 ls) _ left (-1) σ hil (FSS_get hil σ) c1 (by decide), fun h => absurd h (by decide)⟩
    · rw [if_neg h] at c1
      have e : (left : Int) - (ls[i].length : Int) = ((left - ls[i].length : Nat) : Int) := by omega
      rw [e] at c1
      obtain ⟨z, k1, k2⟩ := ih (i + 1) (left - ls[i].length) (by omega) (by omega)
      rw [hi1] at k1
      refine ⟨z, ?_, fun hz => ?_⟩
      · rw [← k1]
        exact s60p ls.length i _ (flat F1 ls) _ left _ σ hil (FSS_get hil σ) c1 (by omega) hw
      · rw [List.drop_eq_getElem_cons hil]
        intro r hr
        rcases List.mem_cons.1 hr with rfl | hr
        · omega
        · exact k2 hz r hr
theorem r60 (ls : List (List (Int × Int))) (hn : ls.length ≤ maxLen) (hr : ∀ r ∈ ls, r.length ≤ maxLen) (k : Nat) (hk : k ≤ 1048576) : ∃ z : Int, FnV TT 60 [FSS ls, .int .i64 k] (.int .i64 z) ∧ (0 ≤ z → ls.length ≤ k ∧ ∀ r ∈ ls, r.length ≤ k) := by
  have hw : wrapA .i64 ((k : Int) - (ls.length : Int)) = (k : Int) - (ls.length : Int) := wrapA_id (by unfold maxLen at hn; omega) (by omega)
  by_cases h : k < ls.length
  · refine ⟨-1, FnV.mk (c := b60) fn60 rfl md60 ⟨⟨[], 0⟩, b60n _ _ _ _ _ hw (by omega)⟩ (fun _ => rfl) rfl, fun h => absurd h (by decide)⟩
  · obtain ⟨z, k1, k2⟩ := l60 ls hn hr k hk ⟨[], 0⟩ ls.length 0 (k - ls.length) (by omega) (by omega)
    have e : (k : Int) - (ls.length : Int) = ((k - ls.length : Nat) : Int) := by omega
    rw [e] at hw
    exact ⟨z, FnV.mk (c := b60) fn60 rfl md60 ⟨⟨[], 0⟩, (b60p _ _ _ _ _ (by rw [← e] at hw; exact hw.trans e) (by omega)).trans k1⟩ (fun _ => rfl) rfl, fun hz => ⟨by omega, by simpa using k2 hz⟩⟩

set_option maxHeartbeats 4000000 in
theorem k19n (n : Nat) (c : List AV) (k z : Int) (c1 : ∀ σ, callI TT 60 [.lst n c, .int .i64 k] σ = some (.int .i64 z, σ)) (hz : z < 0) :
    ∃ σ', exI TT (FI.of Try.f19 (TT.an 19)) [.code (Try.f19.body.getD .skip)] (paramsE 0 [.agg [.lst n c], .int .i64 k]) ⟨[], 0⟩ = some (.int .i64 (-1), σ') := by
  refine ex1 ?_
  rw [fi19]
  simp only [Try.f19, Option.getD]
  simp (maxSteps := 1000000) (disch := omega) [cellsAt, getCells, takeN, dropN, fieldAddrA, allOne, AV.one, n_push, storeCellsA, putN, overN, St.push, St.get, St.set, hget, hset, blt_dec, buildA, sizesOf, fillA, putCells, List.take_succ_cons, List.take_zero, List.drop_succ_cons, List.drop_zero, List.nil_append, List.cons_append, List.length_cons, List.length_nil, eqvs_dgs, c1, hz]
set_option maxHeartbeats 4000000 in
theorem k19p (n : Nat) (c : List AV) (k z : Int) (c1 : ∀ σ, callI TT 60 [.lst n c, .int .i64 k] σ = some (.int .i64 z, σ)) (hz : 0 ≤ z) :
    ∃ σ', exI TT (FI.of Try.f19 (TT.an 19)) [.code (Try.f19.body.getD .skip)] (paramsE 0 [.agg [.lst n c], .int .i64 k]) ⟨[], 0⟩ = some (.int .i64 z, σ') := by
  refine ex1 ?_
  rw [fi19]
  simp only [Try.f19, Option.getD]
  simp (maxSteps := 1000000) (disch := omega) [cellsAt, getCells, takeN, dropN, fieldAddrA, allOne, AV.one, n_push, storeCellsA, putN, overN, St.push, St.get, St.set, hget, hset, blt_dec, buildA, sizesOf, fillA, putCells, List.take_succ_cons, List.take_zero, List.drop_succ_cons, List.drop_zero, List.nil_append, List.cons_append, List.length_cons, List.length_nil, eqvs_dgs, c1, hz]
theorem r19 (ls : List (List (Int × Int))) (hn : ls.length ≤ maxLen) (hr : ∀ r ∈ ls, r.length ≤ maxLen) : ∃ z : Int, FnV TT 19 [.agg [FSS ls], .int .i64 1048576] (.int .i64 z) ∧ (0 ≤ z → ls.length ≤ 1048576 ∧ ∀ r ∈ ls, r.length ≤ 1048576) := by
  obtain ⟨z, h1, h2⟩ := r60 ls hn hr 1048576 (Nat.le_refl _)
  by_cases hz : 0 ≤ z
  · exact ⟨z, FnV.mk fn19 rfl md19 (k19p _ _ _ z (fun σ => h1 σ [FSS ls, .int .i64 1048576] rfl) hz) (fun _ => rfl) rfl, h2⟩
  · exact ⟨-1, FnV.mk fn19 rfl md19 (k19n _ _ _ z (fun σ => h1 σ [FSS ls, .int .i64 1048576] rfl) (by omega)) (fun _ => rfl) rfl, fun h => absurd h (by decide)⟩

noncomputable def b62 : Code := Try.f62.body.getD .skip
noncomputable def B62_0 : Code := (bodyC (bodyC (sndC (fstC (sndC (sndC b62))))))
noncomputable def K62_0 : List It := .lp B62_0 :: .blk 0 :: .code (sndC (sndC (sndC b62))) :: []
theorem xl62_0 {fi : FI} {env : Env} {σ : St} : exI TT fi K62_0 env σ = exI TT fi (.code B62_0 :: K62_0) env σ := by unfold K62_0; exact xI_lp
noncomputable def R62_0_0 : List It := .code (sndC (sndC (sndC b62))) :: []
theorem eK62_0_0 : exitA 0 K62_0 = some R62_0_0 := rfl
set_option maxHeartbeats 4000000 in
theorem s62 (n b i m : Nat) (cells x : List AV) (σ σ1 : St) (hi : i < n) (l1 : cellsAt σ (.lp cells i) 1 = some [.lst m x]) (c1 : callI TT 16 [.lst m x] σ = some (.lst m x, σ)) (s1 : storeCellsA σ b i [.lst m x] = some σ1) (hw : wrapA .i64 ((i : Int) + 1) = (i : Int) + 1) :
    exI TT (FI.of Try.f62 (TT.an 62)) K62_0 [(0, .lst n cells), (3, .sl b 0 n n), (4, .int .i64 i)] σ = exI TT (FI.of Try.f62 (TT.an 62)) K62_0 [(0, .lst n cells), (3, .sl b 0 n n), (4, .int .i64 ((i : Int) + 1))] σ1 := by
  rw [fi62]
  conv => lhs; rw [xl62_0]
  simp only [B62_0, b62, Try.f62, Option.getD, fstC, sndC, bodyC, thnC, elsC]
  simp (maxSteps := 1000000) (disch := omega) [eK62_0_0, getCells, takeN, dropN, fieldAddrA, allOne, AV.one, n_push, putN, overN, blt_dec, buildA, sizesOf, fillA, putCells, List.take_succ_cons, List.take_zero, List.drop_succ_cons, List.drop_zero, List.nil_append, List.cons_append, List.length_cons, List.length_nil, eqvs_dgs, hi, l1, c1, s1, hw]
set_option maxHeartbeats 4000000 in
theorem e62 (n b : Nat) (cells : List AV) (σ : St)  :
    exI TT (FI.of Try.f62 (TT.an 62)) K62_0 [(0, .lst n cells), (3, .sl b 0 n n), (4, .int .i64 n)] σ = some (.sl b 0 n n, σ) := by
  rw [fi62]
  conv => lhs; rw [xl62_0]
  simp only [B62_0, b62, Try.f62, Option.getD, fstC, sndC, bodyC, thnC, elsC]
  simp (maxSteps := 1000000) (disch := omega) [eK62_0_0, getCells, takeN, dropN, fieldAddrA, allOne, AV.one, n_push, putN, overN, blt_dec, buildA, sizesOf, fillA, putCells, List.take_succ_cons, List.take_zero, List.drop_succ_cons, List.drop_zero, List.nil_append, List.cons_append, List.length_cons, List.length_nil, eqvs_dgs]
  simp only [R62_0_0, b62, Try.f62, Option.getD, fstC, sndC, bodyC, thnC, elsC]
  simp (maxSteps := 1000000) (disch := omega) [eK62_0_0, getCells, takeN, dropN, fieldAddrA, allOne, AV.one, n_push, putN, overN, blt_dec, buildA, sizesOf, fillA, putCells, List.take_succ_cons, List.take_zero, List.drop_succ_cons, List.drop_zero, List.nil_append, List.cons_append, List.length_cons, List.length_nil, eqvs_dgs]
set_option maxHeartbeats 4000000 in
theorem b62e (n : Nat) (cells : List AV) (σ1 : St) (c1 : makeSliceA TT ⟨[], 0⟩ 34 (.int .i64 n) (.int .i64 n) = some (.sl 0 0 n n, σ1)) :
    exI TT (FI.of Try.f62 (TT.an 62)) [.code b62] (paramsE 0 [.lst n cells]) ⟨[], 0⟩ = exI TT (FI.of Try.f62 (TT.an 62)) K62_0 [(0, .lst n cells), (3, .sl 0 0 n n), (4, .int .i64 0)] σ1 := by
  rw [fi62]
  simp only [b62, Try.f62, Option.getD, fstC, sndC, bodyC, thnC, elsC]
  simp (maxSteps := 1000000) (disch := omega) [eK62_0_0, getCells, takeN, dropN, fieldAddrA, allOne, AV.one, n_push, putN, overN, blt_dec, buildA, sizesOf, fillA, putCells, List.take_succ_cons, List.take_zero, List.drop_succ_cons, List.drop_zero, List.nil_append, List.cons_append, List.length_cons, List.length_nil, eqvs_dgs, c1]
  rfl
theorem l62 (ls : List (List (Int × Int))) (hs : ls.length ≤ 10000000) (hr : ∀ r ∈ ls, r.length ≤ 10000000) (b : Nat) : ∀ (m i : Nat) (σ : St), i + m = ls.length → RowE σ b 1 (flat F1 (ls.take i) ++ repeatCells [.nilS] m) →
    ∃ σ', exI TT (FI.of Try.f62 (TT.an 62)) K62_0 [(0, FSS ls), (3, .sl b 0 ls.length ls.length), (4, .int .i64 i)] σ = some (.sl b 0 ls.length ls.length, σ') ∧ RowE σ' b 1 (flat F1 ls) := by
  intro m
  induction m with
  | zero =>
    intro i σ hi hr
    obtain rfl : i = ls.length := by omega
    rw [List.take_of_length_le (Nat.le_refl _), repeatCells, List.append_nil] at hr
    exact ⟨σ, e62 ls.length b (flat F1 ls) σ, hr⟩
  | succ m ih =>
    intro i σ hi hrow
    have hil : i < ls.length := by omega
    have hpl : (flat F1 (ls.take i)).length = i := by rw [flat_len F1_len, List.length_take, Nat.min_eq_left (by omega)]; omega
    obtain ⟨σ1, a1, a2, _⟩ := hrow.st (i := i) (ws := F1 ls[i]) (by rw [List.length_append, hpl, repeatCells, List.length_append]; simp [F1]) rfl
    rw [repeatCells] at a2
    have hp : putCells (flat F1 (ls.take i) ++ ([.nilS] ++ repeatCells [.nilS] m)) i (F1 ls[i]) = flat F1 (ls.take i) ++ (F1 ls[i] ++ repeatCells [.nilS] m) := by
      have := put_el (pre := flat F1 (ls.take i)) (z := [.nilS]) (w := F1 ls[i]) (suf := repeatCells [.nilS] m) rfl
      rw [hpl] at this; exact this
    rw [hp, ← List.append_assoc] at a2
    have e : flat F1 (ls.take i) ++ F1 ls[i] = flat F1 (ls.take (i + 1)) := by rw [List.take_succ_eq_append_getElem hil, flat_app]; simp [flat]
    rw [e] at a2
    obtain ⟨σ', k1, k2⟩ := ih (i + 1) σ1 (by omega) a2
    refine ⟨σ', ?_, k2⟩
    rw [← k1]
    have hi1 : ((i + 1 : Nat) : Int) = (i : Int) + 1 := by omega
    rw [hi1]
    exact s62 ls.length b i _ (flat F1 ls) _ σ σ1 hil (FSS_get hil σ) ((r16 ls[i] (hr _ (List.getElem_mem hil))).pure σ rfl rfl) a1 (wrapA_id (by omega) (by omega))
theorem F1_frz (σ : St) (d : Nat) (r : List (Int × Int)) : mapO (frzV σ (d + 1)) (F1 r) = some (F1 r) := rfl
theorem r62 (ls : List (List (Int × Int))) (hs : ls.length ≤ 10000000) (hr : ∀ r ∈ ls, r.length ≤ 10000000) : FnF TT 62 [FSS ls] (FSS ls) := by
  have hm := make_el (T := TT) (σ := ⟨[], 0⟩) (st := 34) (n := ls.length) ty34 ty25 (by decide) (by omega)
  obtain ⟨σ', k1, k2⟩ := l62 ls hs hr 0 ls.length 0 _ (by omega) (RowE.push (σ := ⟨[], 0⟩) (cs := repeatCells [.nilS] ls.length) (e := 1) (o := false))
  refine FnF.mk (c := b62) fn62 rfl md62 ⟨σ', _, (b62e _ _ _ hm).trans k1, ?_⟩
  exact k2.frz (d := 4) (by rw [flat_len F1_len]) (flat_frz (fun v => F1_frz σ' 4 v) _) (Nat.le_refl _)

set_option maxHeartbeats 4000000 in
theorem k21 (n : Nat) (c : List AV) (c1 : ∀ σ, callI TT 62 [.lst n c] σ = some (.lst n c, σ)) :
    ∃ σ', exI TT (FI.of Try.f21 (TT.an 21)) [.code (Try.f21.body.getD .skip)] (paramsE 0 [.agg [.lst n c]]) ⟨[], 0⟩ = some (.agg [.lst n c], σ') := by
  refine ex1 ?_
  rw [fi21]
  simp only [Try.f21, Option.getD]
  simp (maxSteps := 1000000) (disch := omega) [cellsAt, getCells, takeN, dropN, fieldAddrA, allOne, AV.one, n_push, storeCellsA, putN, overN, St.push, St.get, St.set, hget, hset, blt_dec, buildA, sizesOf, fillA, putCells, List.take_succ_cons, List.take_zero, List.drop_succ_cons, List.drop_zero, List.nil_append, List.cons_append, List.length_cons, List.length_nil, eqvs_dgs, c1]
theorem r21 (ls : List (List (Int × Int))) (hs : ls.length ≤ 10000000) (hr : ∀ r ∈ ls, r.length ≤ 10000000) : FnF TT 21 [.agg [FSS ls]] (.agg [FSS ls]) :=
  FnF.mkv fn21 rfl md21 (k21 _ _ (fun σ => (r62 ls hs hr).pure σ rfl rfl)) (fun _ => rfl)

noncomputable def b68 : Code := Try.f68.body.getD .skip
noncomputable def B68_0 : Code := (bodyC (bodyC (sndC (fstC (sndC (sndC b68))))))
noncomputable def K68_0 : List It := .lp B68_0 :: .blk 0 :: .code (sndC (sndC (sndC b68))) :: []
theorem xl68_0 {fi : FI} {env : Env} {σ : St} : exI TT fi K68_0 env σ = exI TT fi (.code B68_0 :: K68_0) env σ := by unfold K68_0; exact xI_lp
noncomputable def R68_0_0 : List It := .code (sndC (sndC (sndC b68))) :: []
theorem eK68_0_0 : exitA 0 K68_0 = some R68_0_0 := rfl
set_option maxHeartbeats 4000000 in
theorem s68 (n i m : Nat) (cells x : List AV) (σ : St) (hi : i < n) (l1 : cellsAt σ (.lp cells i) 1 = some [.lst m x]) (c1 : callI TT 18 [.lst m x, .lst m x] σ = some (.bool true, σ)) (hex : eqvs x x = true) (hw : wrapA .i64 ((i : Int) + 1) = (i : Int) + 1) :
    exI TT (FI.of Try.f68 (TT.an 68)) K68_0 [(0, .lst n cells), (1, .lst n cells), (5, .int .i64 i)] σ = exI TT (FI.of Try.f68 (TT.an 68)) K68_0 [(0, .lst n cells), (1, .lst n cells), (5, .int .i64 ((i : Int) + 1))] σ := by
  rw [fi68]
  conv => lhs; rw [xl68_0]
  simp only [B68_0, b68, Try.f68, Option.getD, fstC, sndC, bodyC, thnC, elsC]
  simp (maxSteps := 1000000) (disch := omega) [eK68_0_0, getCells, takeN, dropN, fieldAddrA, allOne, AV.one, n_push, putN, overN, blt_dec, buildA, sizesOf, fillA, putCells, List.take_succ_cons, List.take_zero, List.drop_succ_cons, List.drop_zero, List.nil_append, List.cons_append, List.length_cons, List.length_nil, eqvs_dgs, hi, l1, c1, hex, hw]
set_option maxHeartbeats 4000000 in
theorem e68 (n : Nat) (cells : List AV) (σ : St)  :
    exI TT (FI.of Try.f68 (TT.an 68)) K68_0 [(0, .lst n cells), (1, .lst n cells), (5, .int .i64 n)] σ = some (.bool true, σ) := by
  rw [fi68]
  conv => lhs; rw [xl68_0]
  simp only [B68_0, b68, Try.f68, Option.getD, fstC, sndC, bodyC, thnC, elsC]
  simp (maxSteps := 1000000) (disch := omega) [eK68_0_0, getCells, takeN, dropN, fieldAddrA, allOne, AV.one, n_push, putN, overN, blt_dec, buildA, sizesOf, fillA, putCells, List.take_succ_cons, List.take_zero, List.drop_succ_cons, List.drop_zero, List.nil_append, List.cons_append, List.length_cons, List.length_nil, eqvs_dgs]
  simp only [R68_0_0, b68, Try.f68, Option.getD, fstC, sndC, bodyC, thnC, elsC]
  simp (maxSteps := 1000000) (disch := omega) [eK68_0_0, getCells, takeN, dropN, fieldAddrA, allOne, AV.one, n_push, putN, overN, blt_dec, buildA, sizesOf, fillA, putCells, List.take_succ_cons, List.take_zero, List.drop_succ_cons, List.drop_zero, List.nil_append, List.cons_append, List.length_cons, List.length_nil, eqvs_dgs]
set_option maxHeartbeats 4000000 in
theorem b68e (n : Nat) (cells : List AV) (σ : St)  :
    exI TT (FI.of Try.f68 (TT.an 68)) [.code b68] (paramsE 0 [.lst n cells, .lst n cells]) σ = exI TT (FI.of Try.f68 (TT.an 68)) K68_0 [(0, .lst n cells), (1, .lst n cells), (5, .int .i64 0)] σ := by
  rw [fi68]
  simp only [b68, Try.f68, Option.getD, fstC, sndC, bodyC, thnC, elsC]
  simp (maxSteps := 1000000) (disch := omega) [eK68_0_0, getCells, takeN, dropN, fieldAddrA, allOne, AV.one, n_push, putN, overN, blt_dec, buildA, sizesOf, fillA, putCells, List.take_succ_cons, List.take_zero, List.drop_succ_cons, List.drop_zero, List.nil_append, List.cons_append, List.length_cons, List.length_nil, eqvs_dgs]
  rfl
theorem flat_eqv {α : Type} {f : α → List AV} (hf : ∀ x, eqvs (f x) (f x) = true) (l : List α) : eqvs (flat f l) (flat f l) = true := by
  have app : ∀ (a b : List AV), eqvs a a = true → eqvs b b = true → eqvs (a ++ b) (a ++ b) = true := by
    intro a
    induction a with
    | nil => intro b _ h; exact h
    | cons x r ih => intro b h1 h2; simp only [eqvs, Bool.and_eq_true, List.cons_append] at h1 ⊢; exact ⟨h1.1, ih b h1.2 h2⟩
  induction l with
  | nil => rfl
  | cons x r ih => rw [flat, List.flatMap_cons]; exact app _ _ (hf x) ih
theorem FS_eqv (l : List (Int × Int)) : eqvs (flat FC l) (flat FC l) = true := flat_eqv (fun x => by simp [FC, eqvs, AV.eqv]) l
theorem F1_eqv (ls : List (List (Int × Int))) : eqvs (flat F1 ls) (flat F1 ls) = true := flat_eqv (fun r => by simp [F1, FS, eqvs, AV.eqv, FS_eqv]) ls
theorem l68 (ls : List (List (Int × Int))) (hs : ls.length ≤ 10000000) (hr : ∀ r ∈ ls, r.length ≤ 10000000) (σ : St) : ∀ (m i : Nat), i + m = ls.length → exI TT (FI.of Try.f68 (TT.an 68)) K68_0 [(0, FSS ls), (1, FSS ls), (5, .int .i64 i)] σ = some (.bool true, σ) := by
  intro m
  induction m with
  | zero =>
    intro i hi
    obtain rfl : i = ls.length := by omega
    exact e68 _ _ σ
  | succ m ih =>
    intro i hi
    have hil : i < ls.length := by omega
    have h := ih (i + 1) (by omega)
    have hi1 : ((i + 1 : Nat) : Int) = (i : Int) + 1 := by omega
    rw [hi1] at h
    rw [← h]
    exact s68 ls.length i _ (flat F1 ls) _ σ hil (FSS_get hil σ) (r18 ls[i] (hr _ (List.getElem_mem hil)) σ [FS ls[i], FS ls[i]] rfl) (FS_eqv _) (wrapA_id (by omega) (by omega))
theorem r68 (ls : List (List (Int × Int))) (hs : ls.length ≤ 10000000) (hr : ∀ r ∈ ls, r.length ≤ 10000000) : FnV TT 68 [FSS ls, FSS ls] (.bool true) :=
  FnV.mk (c := b68) fn68 rfl md68 ⟨⟨[], 0⟩, (b68e _ _ _).trans (l68 ls hs hr ⟨[], 0⟩ ls.length 0 (by omega))⟩ (fun _ => rfl) rfl

set_option maxHeartbeats 4000000 in
theorem k23 (n : Nat) (c : List AV) (c1 : ∀ σ, callI TT 68 [.lst n c, .lst n c] σ = some (.bool true, σ)) :
    ∃ σ', exI TT (FI.of Try.f23 (TT.an 23)) [.code (Try.f23.body.getD .skip)] (paramsE 0 [.agg [.lst n c], .agg [.lst n c]]) ⟨[], 0⟩ = some (.bool true, σ') := by
  refine ex1 ?_
  rw [fi23]
  simp only [Try.f23, Option.getD]
  simp (maxSteps := 1000000) (disch := omega) [cellsAt, getCells, takeN, dropN, fieldAddrA, allOne, AV.one, n_push, storeCellsA, putN, overN, St.push, St.get, St.set, hget, hset, blt_dec, buildA, sizesOf, fillA, putCells, List.take_succ_cons, List.take_zero, List.drop_succ_cons, List.drop_zero, List.nil_append, List.cons_append, List.length_cons, List.length_nil, eqvs_dgs, c1]
theorem r23 (ls : List (List (Int × Int))) (hs : ls.length ≤ 10000000) (hr : ∀ r ∈ ls, r.length ≤ 10000000) : FnV TT 23 [.agg [FSS ls], .agg [FSS ls]] (.bool true) :=
  FnV.mk fn23 rfl md23 (k23 _ _ (fun σ => r68 ls hs hr σ [FSS ls, FSS ls] rfl)) (fun _ => rfl) rfl
/-- Valid walks. -/
def rowOk (n : Nat) (r : List (Int × Int)) : Bool := decide (r.length = n) && isCh r
def isWk (ls : List (List (Int × Int))) : Bool := (decide (1 ≤ ls.length) && decide (ls.length ≤ 6)) && ls.all (rowOk ls.length)

noncomputable def b61 : Code := Try.f61.body.getD .skip
noncomputable def B61_0 : Code := (bodyC (bodyC (sndC (fstC (sndC (sndC (sndC b61)))))))
noncomputable def K61_0 : List It := .lp B61_0 :: .blk 0 :: .code (sndC (sndC (sndC (sndC b61)))) :: []
theorem xl61_0 {fi : FI} {env : Env} {σ : St} : exI TT fi K61_0 env σ = exI TT fi (.code B61_0 :: K61_0) env σ := by unfold K61_0; exact xI_lp
noncomputable def R61_0_0 : List It := .code (sndC (sndC (sndC (sndC b61)))) :: []
theorem eK61_0_0 : exitA 0 K61_0 = some R61_0_0 := rfl
set_option maxHeartbeats 4000000 in
theorem s61l (n b i m : Nat) (cells x : List AV) (σ : St) (hi : i < n) (l0 : cellsAt σ (.ptr b 0) 1 = some [.lst n cells]) (l1 : cellsAt σ (.lp cells i) 1 = some [.lst m x]) (hm : ieqb (m : Int) n = false) :
    exI TT (FI.of Try.f61 (TT.an 61)) K61_0 [(0, .ptr b 0), (3, .int .i64 n), (4, .int .i64 i)] σ = some (.bool false, σ) := by
  rw [fi61]
  conv => lhs; rw [xl61_0]
  simp only [B61_0, b61, Try.f61, Option.getD, fstC, sndC, bodyC, thnC, elsC]
  simp (maxSteps := 1000000) (disch := omega) [eK61_0_0, getCells, takeN, dropN, fieldAddrA, allOne, AV.one, n_push, putN, overN, blt_dec, buildA, sizesOf, fillA, putCells, List.take_succ_cons, List.take_zero, List.drop_succ_cons, List.drop_zero, List.nil_append, List.cons_append, List.length_cons, List.length_nil, eqvs_dgs, hi, l0, l1, hm]
set_option maxHeartbeats 4000000 in
theorem s61f (n b i : Nat) (cells x : List AV) (σ : St) (hi : i < n) (l0 : cellsAt σ (.ptr b 0) 1 = some [.lst n cells]) (l1 : cellsAt σ (.lp cells i) 1 = some [.lst n x]) (c1 : callI TT 74 [.lst n x] σ = some (.bool false, σ)) :
    exI TT (FI.of Try.f61 (TT.an 61)) K61_0 [(0, .ptr b 0), (3, .int .i64 n), (4, .int .i64 i)] σ = some (.bool false, σ) := by
  rw [fi61]
  conv => lhs; rw [xl61_0]
  simp only [B61_0, b61, Try.f61, Option.getD, fstC, sndC, bodyC, thnC, elsC]
  simp (maxSteps := 1000000) (disch := omega) [eK61_0_0, getCells, takeN, dropN, fieldAddrA, allOne, AV.one, n_push, putN, overN, blt_dec, buildA, sizesOf, fillA, putCells, List.take_succ_cons, List.take_zero, List.drop_succ_cons, List.drop_zero, List.nil_append, List.cons_append, List.length_cons, List.length_nil, eqvs_dgs, hi, l0, l1, c1]
set_option maxHeartbeats 4000000 in
theorem s61t (n b i : Nat) (cells x : List AV) (σ : St) (hi : i < n) (l0 : cellsAt σ (.ptr b 0) 1 = some [.lst n cells]) (l1 : cellsAt σ (.lp cells i) 1 = some [.lst n x]) (c1 : callI TT 74 [.lst n x] σ = some (.bool true, σ)) (hw : wrapA .i64 ((i : Int) + 1) = (i : Int) + 1) :
    exI TT (FI.of Try.f61 (TT.an 61)) K61_0 [(0, .ptr b 0), (3, .int .i64 n), (4, .int .i64 i)] σ = exI TT (FI.of Try.f61 (TT.an 61)) K61_0 [(0, .ptr b 0), (3, .int .i64 n), (4, .int .i64 ((i : Int) + 1))] σ := by
  rw [fi61]
  conv => lhs; rw [xl61_0]
  simp only [B61_0, b61, Try.f61, Option.getD, fstC, sndC, bodyC, thnC, elsC]
  simp (maxSteps := 1000000) (disch := omega) [eK61_0_0, getCells, takeN, dropN, fieldAddrA, allOne, AV.one, n_push, putN, overN, blt_dec, buildA, sizesOf, fillA, putCells, List.take_succ_cons, List.take_zero, List.drop_succ_cons, List.drop_zero, List.nil_append, List.cons_append, List.length_cons, List.length_nil, eqvs_dgs, hi, l0, l1, c1, hw]
set_option maxHeartbeats 4000000 in
theorem e61 (n b : Nat) (σ : St)  :
    exI TT (FI.of Try.f61 (TT.an 61)) K61_0 [(0, .ptr b 0), (3, .int .i64 n), (4, .int .i64 n)] σ = some (.bool true, σ) := by
  rw [fi61]
  conv => lhs; rw [xl61_0]
  simp only [B61_0, b61, Try.f61, Option.getD, fstC, sndC, bodyC, thnC, elsC]
  simp (maxSteps := 1000000) (disch := omega) [eK61_0_0, getCells, takeN, dropN, fieldAddrA, allOne, AV.one, n_push, putN, overN, blt_dec, buildA, sizesOf, fillA, putCells, List.take_succ_cons, List.take_zero, List.drop_succ_cons, List.drop_zero, List.nil_append, List.cons_append, List.length_cons, List.length_nil, eqvs_dgs]
  simp only [R61_0_0, b61, Try.f61, Option.getD, fstC, sndC, bodyC, thnC, elsC]
  simp (maxSteps := 1000000) (disch := omega) [eK61_0_0, getCells, takeN, dropN, fieldAddrA, allOne, AV.one, n_push, putN, overN, blt_dec, buildA, sizesOf, fillA, putCells, List.take_succ_cons, List.take_zero, List.drop_succ_cons, List.drop_zero, List.nil_append, List.cons_append, List.length_cons, List.length_nil, eqvs_dgs]
set_option maxHeartbeats 4000000 in
theorem b61n (n b : Nat) (cells : List AV) (σ : St) (l0 : cellsAt σ (.ptr b 0) 1 = some [.lst n cells]) (h : n = 0) :
    exI TT (FI.of Try.f61 (TT.an 61)) [.code b61] (paramsE 0 [.ptr b 0]) σ = some (.bool false, σ) := by
  rw [fi61]
  simp only [b61, Try.f61, Option.getD, fstC, sndC, bodyC, thnC, elsC]
  simp (maxSteps := 1000000) (disch := omega) [eK61_0_0, getCells, takeN, dropN, fieldAddrA, allOne, AV.one, n_push, putN, overN, blt_dec, buildA, sizesOf, fillA, putCells, List.take_succ_cons, List.take_zero, List.drop_succ_cons, List.drop_zero, List.nil_append, List.cons_append, List.length_cons, List.length_nil, eqvs_dgs, l0, h]
set_option maxHeartbeats 4000000 in
theorem b61m (n b : Nat) (cells : List AV) (σ : St) (l0 : cellsAt σ (.ptr b 0) 1 = some [.lst n cells]) (h : 6 < n) :
    exI TT (FI.of Try.f61 (TT.an 61)) [.code b61] (paramsE 0 [.ptr b 0]) σ = some (.bool false, σ) := by
  rw [fi61]
  simp only [b61, Try.f61, Option.getD, fstC, sndC, bodyC, thnC, elsC]
  simp (maxSteps := 1000000) (disch := omega) [eK61_0_0, getCells, takeN, dropN, fieldAddrA, allOne, AV.one, n_push, putN, overN, blt_dec, buildA, sizesOf, fillA, putCells, List.take_succ_cons, List.take_zero, List.drop_succ_cons, List.drop_zero, List.nil_append, List.cons_append, List.length_cons, List.length_nil, eqvs_dgs, l0, h]
set_option maxHeartbeats 4000000 in
theorem b61p (n b : Nat) (cells : List AV) (σ : St) (l0 : cellsAt σ (.ptr b 0) 1 = some [.lst n cells]) (h : 1 ≤ n) (h2 : n ≤ 6) :
    exI TT (FI.of Try.f61 (TT.an 61)) [.code b61] (paramsE 0 [.ptr b 0]) σ = exI TT (FI.of Try.f61 (TT.an 61)) K61_0 [(0, .ptr b 0), (3, .int .i64 n), (4, .int .i64 0)] σ := by
  rw [fi61]
  simp only [b61, Try.f61, Option.getD, fstC, sndC, bodyC, thnC, elsC]
  simp (maxSteps := 1000000) (disch := omega) [eK61_0_0, getCells, takeN, dropN, fieldAddrA, allOne, AV.one, n_push, putN, overN, blt_dec, buildA, sizesOf, fillA, putCells, List.take_succ_cons, List.take_zero, List.drop_succ_cons, List.drop_zero, List.nil_append, List.cons_append, List.length_cons, List.length_nil, eqvs_dgs, l0, h, h2]
  rfl
theorem l61 (ls : List (List (Int × Int))) (hs : ls.length ≤ 6) (hr : ∀ r ∈ ls, r.length ≤ 10000000) (b : Nat) (σ : St) (l0 : cellsAt σ (.ptr b 0) 1 = some [FSS ls]) : ∀ (m i : Nat), i + m = ls.length → exI TT (FI.of Try.f61 (TT.an 61)) K61_0 [(0, .ptr b 0), (3, .int .i64 ls.length), (4, .int .i64 i)] σ = some (.bool ((ls.drop i).all (rowOk ls.length)), σ) := by
  intro m
  induction m with
  | zero =>
    intro i hi
    obtain rfl : i = ls.length := by omega
    rw [List.drop_of_length_le (Nat.le_refl _)]
    exact e61 _ b σ
  | succ m ih =>
    intro i hi
    have hil : i < ls.length := by omega
    have h := ih (i + 1) (by omega)
    have hi1 : ((i + 1 : Nat) : Int) = (i : Int) + 1 := by omega
    rw [hi1] at h
    have c1 := r74 ls[i] (hr _ (List.getElem_mem hil)) σ [FS ls[i]] rfl
    have g1 := FSS_get hil σ
    rw [List.drop_eq_getElem_cons hil, List.all_cons, rowOk]
    by_cases hl : ls[i].length = ls.length
    · rw [decide_eq_true hl, Bool.true_and]
      have e : FS ls[i] = .lst ls.length (flat FC ls[i]) := by rw [FS, hl]
      rw [e] at c1 g1
      cases hc : isCh ls[i] with
      | true =>
        rw [hc] at c1
        rw [Bool.true_and, ← h]
        exact s61t ls.length b i (flat F1 ls) _ σ hil l0 g1 c1 (wrapA_id (by omega) (by omega))
      | false =>
        rw [hc] at c1
        exact s61f ls.length b i (flat F1 ls) _ σ hil l0 g1 c1
    · rw [decide_eq_false hl]
      exact s61l ls.length b i _ (flat F1 ls) _ σ hil l0 g1 (ieqb_f (by omega))
theorem r61 (ls : List (List (Int × Int))) (hr : ∀ r ∈ ls, r.length ≤ 10000000) (b : Nat) (σ : St) (l0 : cellsAt σ (.ptr b 0) 1 = some [FSS ls]) : callI TT 61 [.ptr b 0] σ = some (.bool (isWk ls), σ) := by
  rw [cI_0 (c := b61) fn61 rfl md61]
  unfold isWk
  by_cases h1 : 1 ≤ ls.length
  · by_cases h2 : ls.length ≤ 6
    · rw [decide_eq_true h1, decide_eq_true h2, Bool.true_and, Bool.true_and]
      have := l61 ls h2 hr b σ l0 ls.length 0 (by omega)
      rw [List.drop_zero] at this
      exact (b61p _ b _ σ l0 h1 h2).trans this
    · rw [decide_eq_false h2, Bool.and_false, Bool.false_and]
      exact b61m _ b _ σ l0 (by omega)
  · rw [decide_eq_false h1]
    exact b61n _ b _ σ l0 (by omega)

set_option maxHeartbeats 4000000 in
theorem k64 (n : Nat) (c : List AV)  :
    ∃ σ', exI TT (FI.of Try.f64 (TT.an 64)) [.code (Try.f64.body.getD .skip)] (paramsE 0 [.lst n c]) ⟨[], 0⟩ = some (.int .i64 n, σ') := by
  refine ex1 ?_
  rw [fi64]
  simp only [Try.f64, Option.getD]
  simp (maxSteps := 1000000) (disch := omega) [cellsAt, getCells, takeN, dropN, fieldAddrA, allOne, AV.one, n_push, storeCellsA, putN, overN, St.push, St.get, St.set, hget, hset, blt_dec, buildA, sizesOf, fillA, putCells, List.take_succ_cons, List.take_zero, List.drop_succ_cons, List.drop_zero, List.nil_append, List.cons_append, List.length_cons, List.length_nil, eqvs_dgs]
theorem r64 (n : Nat) (c : List AV) : FnV TT 64 [.lst n c] (.int .i64 n) := FnV.mk fn64 rfl md64 (k64 n c) (fun _ => rfl) rfl
theorem r66 (ls : List (List (Int × Int))) (r : List (Int × Int)) (hr : r.length ≤ 10000000) (b : Nat) (σ : St) (l0 : cellsAt σ (.ptr b 0) 1 = some [FSS ls]) : callI TT 66 [FS r, .ptr b 0] σ = some (.bool (!rowOk ls.length r), σ) := by
  have c1 := r67 r hr σ [FS r] rfl
  unfold FSS at l0
  unfold rowOk
  rw [cI_0 fn66 rfl md66, fi66]
  generalize isCh r = q at *
  by_cases h : r.length = ls.length
  · rw [decide_eq_true h]
    have e : FS r = .lst ls.length (flat FC r) := by rw [FS, h]
    rw [e] at c1 ⊢
    cases q <;>
    simp (maxSteps := 1000000) (disch := omega) [getCells, takeN, dropN, fieldAddrA, allOne, AV.one, n_push, putN, overN, blt_dec, buildA, sizesOf, fillA, putCells, List.take_succ_cons, List.take_zero, List.drop_succ_cons, List.drop_zero, List.nil_append, List.cons_append, List.length_cons, List.length_nil, eqvs_dgs, l0, c1]
  · rw [decide_eq_false h]
    have h0 : ieqb (r.length : Int) ls.length = false := ieqb_f (by omega)
    unfold FS
    simp (maxSteps := 1000000) (disch := omega) [getCells, takeN, dropN, fieldAddrA, allOne, AV.one, n_push, putN, overN, blt_dec, buildA, sizesOf, fillA, putCells, List.take_succ_cons, List.take_zero, List.drop_succ_cons, List.drop_zero, List.nil_append, List.cons_append, List.length_cons, List.length_nil, eqvs_dgs, l0, h0]

noncomputable def b131 : Code := Try.f131.body.getD .skip
noncomputable def B131_0 : Code := (bodyC (bodyC (sndC (fstC (sndC b131)))))
noncomputable def K131_0 : List It := .lp B131_0 :: .blk 0 :: .code (sndC (sndC b131)) :: []
theorem xl131_0 {fi : FI} {env : Env} {σ : St} : exI TT fi K131_0 env σ = exI TT fi (.code B131_0 :: K131_0) env σ := by unfold K131_0; exact xI_lp
noncomputable def R131_0_0 : List It := .code (sndC (sndC b131)) :: []
theorem eK131_0_0 : exitA 0 K131_0 = some R131_0_0 := rfl
set_option maxHeartbeats 4000000 in
theorem s131t (n b i : Nat) (cells : List AV) (v : AV) (σ : St) (hi : i < n) (l1 : cellsAt σ (.lp cells i) 1 = some [v]) (c1 : callI TT 66 [v, .ptr b 0] σ = some (.bool true, σ)) :
    exI TT (FI.of Try.f131 (TT.an 131)) K131_0 [(0, .lst n cells), (1, .fn 66 [] [.ptr b 0]), (7, .int .i64 n), (8, .int .i64 i)] σ = some (.int .i64 i, σ) := by
  rw [fi131]
  conv => lhs; rw [xl131_0]
  simp only [B131_0, b131, Try.f131, Option.getD, fstC, sndC, bodyC, thnC, elsC]
  simp (maxSteps := 1000000) (disch := omega) [eK131_0_0, getCells, takeN, dropN, fieldAddrA, allOne, AV.one, n_push, putN, overN, blt_dec, buildA, sizesOf, fillA, putCells, List.take_succ_cons, List.take_zero, List.drop_succ_cons, List.drop_zero, List.nil_append, List.cons_append, List.length_cons, List.length_nil, eqvs_dgs, List.append_nil, hi, l1, c1]
set_option maxHeartbeats 4000000 in
theorem s131f (n b i : Nat) (cells : List AV) (v : AV) (σ : St) (hi : i < n) (l1 : cellsAt σ (.lp cells i) 1 = some [v]) (c1 : callI TT 66 [v, .ptr b 0] σ = some (.bool false, σ)) (hw : wrapA .i64 ((i : Int) + 1) = (i : Int) + 1) :
    exI TT (FI.of Try.f131 (TT.an 131)) K131_0 [(0, .lst n cells), (1, .fn 66 [] [.ptr b 0]), (7, .int .i64 n), (8, .int .i64 i)] σ = exI TT (FI.of Try.f131 (TT.an 131)) K131_0 [(0, .lst n cells), (1, .fn 66 [] [.ptr b 0]), (7, .int .i64 n), (8, .int .i64 ((i : Int) + 1))] σ := by
  rw [fi131]
  conv => lhs; rw [xl131_0]
  simp only [B131_0, b131, Try.f131, Option.getD, fstC, sndC, bodyC, thnC, elsC]
  simp (maxSteps := 1000000) (disch := omega) [eK131_0_0, getCells, takeN, dropN, fieldAddrA, allOne, AV.one, n_push, putN, overN, blt_dec, buildA, sizesOf, fillA, putCells, List.take_succ_cons, List.take_zero, List.drop_succ_cons, List.drop_zero, List.nil_append, List.cons_append, List.length_cons, List.length_nil, eqvs_dgs, List.append_nil, hi, l1, c1, hw]
set_option maxHeartbeats 4000000 in
theorem e131 (n b : Nat) (cells : List AV) (σ : St)  :
    exI TT (FI.of Try.f131 (TT.an 131)) K131_0 [(0, .lst n cells), (1, .fn 66 [] [.ptr b 0]), (7, .int .i64 n), (8, .int .i64 n)] σ = some (.int .i64 (-1), σ) := by
  rw [fi131]
  conv => lhs; rw [xl131_0]
  simp only [B131_0, b131, Try.f131, Option.getD, fstC, sndC, bodyC, thnC, elsC]
  simp (maxSteps := 1000000) (disch := omega) [eK131_0_0, getCells, takeN, dropN, fieldAddrA, allOne, AV.one, n_push, putN, overN, blt_dec, buildA, sizesOf, fillA, putCells, List.take_succ_cons, List.take_zero, List.drop_succ_cons, List.drop_zero, List.nil_append, List.cons_append, List.length_cons, List.length_nil, eqvs_dgs]
  simp only [R131_0_0, b131, Try.f131, Option.getD, fstC, sndC, bodyC, thnC, elsC]
  simp (maxSteps := 1000000) (disch := omega) [eK131_0_0, getCells, takeN, dropN, fieldAddrA, allOne, AV.one, n_push, putN, overN, blt_dec, buildA, sizesOf, fillA, putCells, List.take_succ_cons, List.take_zero, List.drop_succ_cons, List.drop_zero, List.nil_append, List.cons_append, List.length_cons, List.length_nil, eqvs_dgs]
set_option maxHeartbeats 4000000 in
theorem b131e (n b : Nat) (cells : List AV) (σ : St)  :
    exI TT (FI.of Try.f131 (TT.an 131)) [.code b131] (paramsE 0 [.lst n cells, .fn 66 [] [.ptr b 0]]) σ = exI TT (FI.of Try.f131 (TT.an 131)) K131_0 [(0, .lst n cells), (1, .fn 66 [] [.ptr b 0]), (7, .int .i64 n), (8, .int .i64 0)] σ := by
  rw [fi131]
  simp only [b131, Try.f131, Option.getD, fstC, sndC, bodyC, thnC, elsC]
  simp (maxSteps := 1000000) (disch := omega) [eK131_0_0, getCells, takeN, dropN, fieldAddrA, allOne, AV.one, n_push, putN, overN, blt_dec, buildA, sizesOf, fillA, putCells, List.take_succ_cons, List.take_zero, List.drop_succ_cons, List.drop_zero, List.nil_append, List.cons_append, List.length_cons, List.length_nil, eqvs_dgs]
  rfl
theorem l131 (ls : List (List (Int × Int))) (hs : ls.length ≤ 6) (hr : ∀ r ∈ ls, r.length ≤ 10000000) (b : Nat) (σ : St) (l0 : cellsAt σ (.ptr b 0) 1 = some [FSS ls]) : ∀ (m i : Nat), i + m = ls.length → ∃ z : Int, exI TT (FI.of Try.f131 (TT.an 131)) K131_0 [(0, FSS ls), (1, .fn 66 [] [.ptr b 0]), (7, .int .i64 ls.length), (8, .int .i64 i)] σ = some (.int .i64 z, σ) ∧ decide (0 ≤ z) = !(ls.drop i).all (rowOk ls.length) := by
  intro m
  induction m with
  | zero =>
    intro i hi
    obtain rfl : i = ls.length := by omega
    rw [List.drop_of_length_le (Nat.le_refl _)]
    exact ⟨-1, e131 _ b _ σ, rfl⟩
  | succ m ih =>
    intro i hi
    have hil : i < ls.length := by omega
    obtain ⟨z, h, h2⟩ := ih (i + 1) (by omega)
    have hi1 : ((i + 1 : Nat) : Int) = (i : Int) + 1 := by omega
    rw [hi1] at h
    have c1 := r66 ls ls[i] (hr _ (List.getElem_mem hil)) b σ l0
    rw [List.drop_eq_getElem_cons hil, List.all_cons]
    cases hc : rowOk ls.length ls[i] with
    | true =>
      rw [hc] at c1
      refine ⟨z, ?_, by rw [h2, Bool.true_and]⟩
      rw [← h]
      exact s131f ls.length b i (flat F1 ls) _ σ hil (FSS_get hil σ) c1 (wrapA_id (by omega) (by omega))
    | false =>
      rw [hc] at c1
      exact ⟨i, s131t ls.length b i (flat F1 ls) _ σ hil (FSS_get hil σ) c1, by rw [Bool.false_and]; exact decide_eq_true (by omega)⟩
theorem r131 (ls : List (List (Int × Int))) (hs : ls.length ≤ 6) (hr : ∀ r ∈ ls, r.length ≤ 10000000) (b : Nat) (σ : St) (l0 : cellsAt σ (.ptr b 0) 1 = some [FSS ls]) : ∃ z : Int, callI TT 131 [FSS ls, .fn 66 [] [.ptr b 0]] σ = some (.int .i64 z, σ) ∧ decide (0 ≤ z) = !ls.all (rowOk ls.length) := by
  obtain ⟨z, h1, h2⟩ := l131 ls hs hr b σ l0 ls.length 0 (by omega)
  exact ⟨z, by rw [cI_0 (c := b131) fn131 rfl md131]; exact (b131e _ b _ σ).trans h1, by rw [h2, List.drop_zero]⟩

theorem r65 (ls : List (List (Int × Int))) (hs : ls.length ≤ 6) (hr : ∀ r ∈ ls, r.length ≤ 10000000) (b : Nat) (σ : St) (l0 : cellsAt σ (.ptr b 0) 1 = some [FSS ls]) : callI TT 65 [FSS ls, .fn 66 [] [.ptr b 0]] σ = some (.bool (!ls.all (rowOk ls.length)), σ) := by
  obtain ⟨z, h1, h2⟩ := r131 ls hs hr b σ l0
  rw [cI_0 fn65 rfl md65, fi65, ← h2]
  unfold FSS at *
  by_cases h : 0 ≤ z
  · rw [decide_eq_true h]
    simp (maxSteps := 1000000) (disch := omega) [getCells, takeN, dropN, fieldAddrA, allOne, AV.one, n_push, putN, overN, blt_dec, buildA, sizesOf, fillA, putCells, List.take_succ_cons, List.take_zero, List.drop_succ_cons, List.drop_zero, List.nil_append, List.cons_append, List.length_cons, List.length_nil, eqvs_dgs, h1]
  · rw [decide_eq_false h]
    have h' : z < 0 := by omega
    simp (maxSteps := 1000000) (disch := omega) [getCells, takeN, dropN, fieldAddrA, allOne, AV.one, n_push, putN, overN, blt_dec, buildA, sizesOf, fillA, putCells, List.take_succ_cons, List.take_zero, List.drop_succ_cons, List.drop_zero, List.nil_append, List.cons_append, List.length_cons, List.length_nil, eqvs_dgs, h1]

set_option maxHeartbeats 4000000 in
theorem k22f (n : Nat) (cells : List AV) (σ0 : St) (h1 : (⟨[], 0⟩ : St).push ⟨[.lst n cells], 1, false⟩ = σ0) (l0 : cellsAt σ0 (.ptr 0 0) 1 = some [.lst n cells]) (c1 : callI TT 64 [.lst n cells] σ0 = some (.int .i64 n, σ0)) (c2 : callI TT 63 [.int .i64 n, .int .i64 1, .int .i64 6] σ0 = some (.bool false, σ0)) :
    ∃ σ', exI TT (FI.of Try.f22 (TT.an 22)) [.code (Try.f22.body.getD .skip)] (paramsE 0 [.agg [.lst n cells]]) ⟨[], 0⟩ = some (.bool false, σ') := by
  refine ex1 ?_
  rw [fi22]
  simp only [Try.f22, Option.getD]
  simp (maxSteps := 1000000) (disch := omega) [getCells, takeN, dropN, fieldAddrA, allOne, AV.one, n_push, putN, overN, blt_dec, buildA, sizesOf, fillA, putCells, List.take_succ_cons, List.take_zero, List.drop_succ_cons, List.drop_zero, List.nil_append, List.cons_append, List.length_cons, List.length_nil, eqvs_dgs, h1, l0, c1, c2]
set_option maxHeartbeats 4000000 in
theorem k22t (n : Nat) (cells : List AV) (σ0 : St) (z : Bool) (h1 : (⟨[], 0⟩ : St).push ⟨[.lst n cells], 1, false⟩ = σ0) (l0 : cellsAt σ0 (.ptr 0 0) 1 = some [.lst n cells]) (c1 : callI TT 64 [.lst n cells] σ0 = some (.int .i64 n, σ0)) (c2 : callI TT 63 [.int .i64 n, .int .i64 1, .int .i64 6] σ0 = some (.bool true, σ0)) (c3 : callI TT 65 [.lst n cells, .fn 66 [] [.ptr 0 0]] σ0 = some (.bool (!z), σ0)) :
    ∃ σ', exI TT (FI.of Try.f22 (TT.an 22)) [.code (Try.f22.body.getD .skip)] (paramsE 0 [.agg [.lst n cells]]) ⟨[], 0⟩ = some (.bool z, σ') := by
  refine ex1 ?_
  rw [fi22]
  simp only [Try.f22, Option.getD]
  simp (maxSteps := 1000000) (disch := omega) [getCells, takeN, dropN, fieldAddrA, allOne, AV.one, n_push, putN, overN, blt_dec, buildA, sizesOf, fillA, putCells, List.take_succ_cons, List.take_zero, List.drop_succ_cons, List.drop_zero, List.nil_append, List.cons_append, List.length_cons, List.length_nil, eqvs_dgs, Bool.not_not, h1, l0, c1, c2, c3]
theorem r22 (ls : List (List (Int × Int))) (hr : ∀ r ∈ ls, r.length ≤ 10000000) : FnV TT 22 [.agg [FSS ls]] (.bool (isWk ls)) := by
  have l0 : cellsAt ((⟨[], 0⟩ : St).push ⟨[FSS ls], 1, false⟩) (.ptr 0 0) 1 = some [FSS ls] := Bx.rd (Bx.push (σ := ⟨[], 0⟩) (vs := [FSS ls]) (m := 1)) rfl
  have c1 := fun σ : St => r64 ls.length (flat F1 ls) σ [FSS ls] rfl
  have c2 := fun σ : St => v63 ls.length 1 6 σ [.int .i64 ls.length, .int .i64 1, .int .i64 6] rfl
  unfold isWk
  by_cases h : 1 ≤ ls.length ∧ ls.length ≤ 6
  · have e : (decide ((1 : Int) ≤ (ls.length : Int)) && decide ((ls.length : Int) ≤ 6)) = true := by
      rw [decide_eq_true (by omega), decide_eq_true (by omega)]; rfl
    rw [e] at c2
    rw [decide_eq_true h.1, decide_eq_true h.2, Bool.true_and, Bool.true_and]
    exact FnV.mk fn22 rfl md22 (k22t _ _ _ _ rfl l0 (c1 _) (c2 _) (r65 ls h.2 hr 0 _ l0)) (fun _ => rfl) rfl
  · have e : (decide ((1 : Int) ≤ (ls.length : Int)) && decide ((ls.length : Int) ≤ 6)) = false := by
      by_cases h1 : 1 ≤ ls.length
      · rw [decide_eq_false (show ¬ (ls.length : Int) ≤ 6 by omega), Bool.and_false]
      · rw [decide_eq_false (show ¬ (1 : Int) ≤ (ls.length : Int) by omega)]; rfl
    rw [e] at c2
    have e2 : (decide (1 ≤ ls.length) && decide (ls.length ≤ 6)) = false := by
      by_cases h1 : 1 ≤ ls.length
      · rw [decide_eq_false (show ¬ ls.length ≤ 6 by omega), Bool.and_false]
      · rw [decide_eq_false h1]; rfl
    rw [e2, Bool.false_and]
    exact FnV.mk fn22 rfl md22 (k22f _ _ _ rfl l0 (c1 _) (c2 _)) (fun _ => rfl) rfl
theorem fits_walk {xs : List AV} (h : Fits [.sl [.sl [.int .i64, .int .i64]]] xs) : ∃ ls : List (List (Int × Int)), xs = [FSS ls] ∧ ls.length ≤ maxLen ∧ ∀ r ∈ ls, r.length ≤ maxLen := by
  simp only [Fits] at h
  obtain ⟨a, _, rfl, h, rfl⟩ := h
  unfold Fit at h
  obtain ⟨rows, rfl, hm, h⟩ := h
  have : ∀ rows : List (List AV), (∀ r ∈ rows, Fits [.sl [.int .i64, .int .i64]] r) → ∃ ls : List (List (Int × Int)), ls.length = rows.length ∧ rows.flatten = flat F1 ls ∧ ∀ r ∈ ls, r.length ≤ maxLen := by
    intro rows
    induction rows with
    | nil => intro _; exact ⟨[], rfl, rfl, by simp⟩
    | cons r t ih =>
      intro h
      obtain ⟨ls, h1, h2, h3⟩ := ih fun y hy => h y (by simp [hy])
      have h4 := h r (by simp)
      simp only [Fits] at h4
      obtain ⟨b, _, rfl, hb, rfl⟩ := h4
      obtain ⟨l, rfl, hl⟩ := fits_frs hb
      refine ⟨l :: ls, by simp [h1], by simp [h2, flat, F1], fun r hr => ?_⟩
      rcases List.mem_cons.1 hr with rfl | hr
      · exact hl
      · exact h3 r hr
  obtain ⟨ls, h1, h2, h3⟩ := this rows h
  exact ⟨ls, by rw [FSS, h1, h2], by omega, h3⟩

set_option maxHeartbeats 4000000 in
theorem k4 (n : Nat) (cells : List AV) (z : Int) (b : Bool) (c1 : ∀ σ, callI TT 19 [.agg [.lst n cells], .int .i64 1048576] σ = some (.int .i64 z, σ)) (hz : 0 ≤ z) (c2 : ∀ σ, callI TT 21 [.agg [.lst n cells]] σ = some (.agg [.lst n cells], σ)) (c3 : ∀ σ, callI TT 20 [.agg [.lst n cells]] σ = some (.bool b, σ)) (c4 : ∀ σ, callI TT 22 [.agg [.lst n cells]] σ = some (.bool b, σ)) (c5 : ∀ σ, callI TT 23 [.agg [.lst n cells], .agg [.lst n cells]] σ = some (.bool true, σ)) (he : eqvs cells cells = true) :
    ∃ σ', exI TT (FI.of Try.f4 (TT.an 4)) [.code (Try.f4.body.getD .skip)] (paramsE 0 [.agg [.lst n cells]]) ⟨[], 0⟩ = some (.bool true, σ') := by
  refine ex1 ?_
  rw [fi4]
  simp only [Try.f4, Option.getD]
  cases b <;>
  simp (maxSteps := 1000000) (disch := omega) [cellsAt, getCells, takeN, dropN, fieldAddrA, allOne, AV.one, n_push, storeCellsA, putN, overN, St.push, St.get, St.set, hget, hset, blt_dec, buildA, sizesOf, fillA, putCells, List.take_succ_cons, List.take_zero, List.drop_succ_cons, List.drop_zero, List.nil_append, List.cons_append, List.length_cons, List.length_nil, eqvs_dgs, c1, hz, c2, c3, c4, c5, he]
def R1 (r : List Rat) : List AV := [RS r]
theorem R1_len (r : List Rat) : (R1 r).length = 1 := rfl
def RSS (rs : List (List Rat)) : AV := .lst rs.length (flat R1 rs)
theorem RSS_get {rs : List (List Rat)} {i : Nat} (h : i < rs.length) (σ : St) : cellsAt σ (.lp (flat R1 rs) i) 1 = some [RS rs[i]] := flat1_get h σ
theorem R1_frz (σ : St) (d : Nat) (r : List Rat) : mapO (frzV σ (d + 1)) (R1 r) = some (R1 r) := rfl
def rqs (ls : List (List (Int × Int))) : List (List Rat) := ls.map fun r => r.map rq
/-- The greatest distance of two rows. -/
def spIn (p : List (List Rat)) (i : Nat) : Nat → Rat → Rat
  | 0, s => s
  | k + 1, s => if 0 < cmpR (distQ (p.getD i []) (p.getD k [])) (spIn p i k s) then distQ (p.getD i []) (p.getD k []) else spIn p i k s
def spOut (p : List (List Rat)) : Nat → Rat
  | 0 => 0
  | i + 1 => spIn p i i (spOut p i)
def valCon (ls : List (List (Int × Int))) : AV := if isWk ls = true then frA (spOut (rqs ls) ls.length) else frF
theorem valCon_is (ls : List (List (Int × Int))) : ∃ a b c, valCon ls = .tup [.agg [.int .i64 a, .int .i64 b], .bool c] := by
  unfold valCon
  split
  · exact frA_is _
  · exact ⟨_, _, _, rfl⟩
theorem isWk_b {ls : List (List (Int × Int))} (h : isWk ls = true) : 1 ≤ ls.length ∧ ls.length ≤ 6 ∧ ∀ r ∈ ls, r.length = ls.length ∧ isCh r = true := by
  simp only [isWk, Bool.and_eq_true, decide_eq_true_eq, List.all_eq_true, rowOk] at h
  exact ⟨h.1.1, h.1.2, h.2⟩

noncomputable def b90 : Code := Try.f90.body.getD .skip
noncomputable def B90_0 : Code := (bodyC (bodyC (sndC (fstC (sndC (sndC b90))))))
noncomputable def K90_0 : List It := .lp B90_0 :: .blk 0 :: .code (sndC (sndC (sndC b90))) :: []
theorem xl90_0 {fi : FI} {env : Env} {σ : St} : exI TT fi K90_0 env σ = exI TT fi (.code B90_0 :: K90_0) env σ := by unfold K90_0; exact xI_lp
noncomputable def R90_0_0 : List It := .code (sndC (sndC (sndC b90))) :: []
theorem eK90_0_0 : exitA 0 K90_0 = some R90_0_0 := rfl
set_option maxHeartbeats 4000000 in
theorem s90 (n i b m b2 m2 a c : Nat) (cells x y : List AV) (σ σ1 σ2 : St) (hi : i < n) (l1 : cellsAt σ (.lp cells i) 1 = some [.lst a x]) (c1 : callI TT 79 [.lst a x] σ = some (.lst c y, σ)) (c2 : buildSliceA TT σ 115 1 [(0, .lst c y)] = some (.sl σ.n 0 1 1, σ1)) (c3 : appendA TT σ1 115 115 (.sl b 0 m m) (.sl σ.n 0 1 1) = some (.sl b2 0 m2 m2, σ2)) (hw : wrapA .i64 ((i : Int) + 1) = (i : Int) + 1) :
    exI TT (FI.of Try.f90 (TT.an 90)) K90_0 [(3, .sl b 0 m m), (8, .lst n cells), (9, .int .i64 n), (10, .int .i64 i)] σ = exI TT (FI.of Try.f90 (TT.an 90)) K90_0 [(3, .sl b2 0 m2 m2), (8, .lst n cells), (9, .int .i64 n), (10, .int .i64 ((i : Int) + 1))] σ2 := by
  rw [fi90]
  conv => lhs; rw [xl90_0]
  simp only [B90_0, b90, Try.f90, Option.getD, fstC, sndC, bodyC, thnC, elsC]
  simp (maxSteps := 1000000) (disch := omega) [eK90_0_0, getCells, takeN, dropN, fieldAddrA, allOne, AV.one, n_push, putN, overN, blt_dec, buildA, sizesOf, fillA, putCells, List.take_succ_cons, List.take_zero, List.drop_succ_cons, List.drop_zero, List.nil_append, List.cons_append, List.length_cons, List.length_nil, eqvs_dgs, hi, l1, c1, c2, c3, hw]
set_option maxHeartbeats 4000000 in
theorem e90 (n b m : Nat) (cells : List AV) (σ : St)  :
    exI TT (FI.of Try.f90 (TT.an 90)) K90_0 [(3, .sl b 0 m m), (8, .lst n cells), (9, .int .i64 n), (10, .int .i64 n)] σ = some (.sl b 0 m m, σ) := by
  rw [fi90]
  conv => lhs; rw [xl90_0]
  simp only [B90_0, b90, Try.f90, Option.getD, fstC, sndC, bodyC, thnC, elsC]
  simp (maxSteps := 1000000) (disch := omega) [eK90_0_0, getCells, takeN, dropN, fieldAddrA, allOne, AV.one, n_push, putN, overN, blt_dec, buildA, sizesOf, fillA, putCells, List.take_succ_cons, List.take_zero, List.drop_succ_cons, List.drop_zero, List.nil_append, List.cons_append, List.length_cons, List.length_nil, eqvs_dgs]
  simp only [R90_0_0, b90, Try.f90, Option.getD, fstC, sndC, bodyC, thnC, elsC]
  simp (maxSteps := 1000000) (disch := omega) [eK90_0_0, getCells, takeN, dropN, fieldAddrA, allOne, AV.one, n_push, putN, overN, blt_dec, buildA, sizesOf, fillA, putCells, List.take_succ_cons, List.take_zero, List.drop_succ_cons, List.drop_zero, List.nil_append, List.cons_append, List.length_cons, List.length_nil, eqvs_dgs]
set_option maxHeartbeats 4000000 in
theorem b90e (n : Nat) (cells : List AV) (σ0 σ1 : St) (h1 : (⟨[], 0⟩ : St).push ⟨[.lst n cells], 1, false⟩ = σ0) (c1 : buildSliceA TT σ0 115 0 [] = some (.sl 1 0 0 0, σ1)) (l1 : cellsAt σ1 (.ptr 0 0) 1 = some [.lst n cells]) :
    exI TT (FI.of Try.f90 (TT.an 90)) [.code b90] (paramsE 0 [.agg [.lst n cells]]) ⟨[], 0⟩ = exI TT (FI.of Try.f90 (TT.an 90)) K90_0 [(3, .sl 1 0 0 0), (8, .lst n cells), (9, .int .i64 n), (10, .int .i64 0)] σ1 := by
  rw [fi90]
  simp only [b90, Try.f90, Option.getD, fstC, sndC, bodyC, thnC, elsC]
  simp (maxSteps := 1000000) (disch := omega) [eK90_0_0, getCells, takeN, dropN, fieldAddrA, allOne, AV.one, n_push, putN, overN, blt_dec, buildA, sizesOf, fillA, putCells, List.take_succ_cons, List.take_zero, List.drop_succ_cons, List.drop_zero, List.nil_append, List.cons_append, List.length_cons, List.length_nil, eqvs_dgs, h1, c1, l1]
  rfl
theorem l90 (ls : List (List (Int × Int))) (hr : ∀ r ∈ ls, vfl r = true ∧ r.length ≤ 1000000) (hs : ls.length ≤ 1000000) : ∀ (m i b : Nat) (σ : St), i + m = ls.length → RowE σ b 1 (flat R1 (rqs (ls.take i))) →
    ∃ b' σ', exI TT (FI.of Try.f90 (TT.an 90)) K90_0 [(3, .sl b 0 i i), (8, FSS ls), (9, .int .i64 ls.length), (10, .int .i64 i)] σ = some (.sl b' 0 ls.length ls.length, σ') ∧ RowE σ' b' 1 (flat R1 (rqs ls)) := by
  intro m
  induction m with
  | zero =>
    intro i b σ hi hrow
    obtain rfl : i = ls.length := by omega
    rw [List.take_of_length_le (Nat.le_refl _)] at hrow
    exact ⟨b, σ, e90 ls.length b ls.length (flat F1 ls) σ, hrow⟩
  | succ m ih =>
    intro i b σ hi hrow
    have hil : i < ls.length := by omega
    obtain ⟨v1, v2⟩ := hr _ (List.getElem_mem hil)
    have c1 := (r79 ls[i] v1 v2).pure σ rfl rfl
    have c2 := build_v (T := TT) (σ := σ) (st := 115) (v := RS (ls[i].map rq)) ty115 ty104 rfl rfl rfl
    obtain ⟨σ4, d1, d2, _⟩ := append_el (T := TT) (st := 115) (n := i) ty115 ty104 (fun _ _ => trivial) (by decide) (R1_len (ls[i].map rq)) rfl (by rw [flat_len R1_len]; simp [rqs]; omega) hrow (by omega)
    have e : flat R1 (rqs (ls.take i)) ++ R1 (ls[i].map rq) = flat R1 (rqs (ls.take (i + 1))) := by
      rw [List.take_succ_eq_append_getElem hil, rqs, rqs, List.map_append, flat_app]; simp [flat]
    rw [e] at d2
    obtain ⟨b', σ', k1, k2⟩ := ih (i + 1) (σ.n + 1) σ4 (by omega) d2
    refine ⟨b', σ', ?_, k2⟩
    rw [← k1]
    have hi1 : ((i + 1 : Nat) : Int) = (i : Int) + 1 := by omega
    rw [hi1]
    exact s90 ls.length i b i (σ.n + 1) (i + 1) _ _ (flat F1 ls) _ _ σ _ σ4 hil (FSS_get hil σ) c1 c2 d1 (wrapA_id (by omega) (by omega))
theorem r90 (ls : List (List (Int × Int))) (hr : ∀ r ∈ ls, vfl r = true ∧ r.length ≤ 1000000) (hs : ls.length ≤ 1000000) : FnF TT 90 [.agg [FSS ls]] (RSS (rqs ls)) := by
  have hb := build_e0 (T := TT) (σ := (⟨[], 0⟩ : St).push ⟨[FSS ls], 1, false⟩) (st := 115) ty115 ty104
  have hx : Bx ((⟨[], 0⟩ : St).push ⟨[FSS ls], 1, false⟩) 0 [FSS ls] := Bx.push
  obtain ⟨b', σ', k1, k2⟩ := l90 ls hr hs ls.length 0 1 _ (by omega) (RowE.push (σ := (⟨[], 0⟩ : St).push ⟨[FSS ls], 1, false⟩) (cs := []) (e := 1) (o := false))
  refine FnF.mk (c := b90) fn90 rfl md90 ⟨σ', _, (b90e _ _ _ _ rfl hb ((hx.old Old.push).rd rfl)).trans k1, ?_⟩
  have := k2.frz (d := 4) (n := ls.length) (c := ls.length) (by rw [flat_len R1_len]; simp [rqs]) (flat_frz (fun v => R1_frz σ' 4 v) _) (Nat.le_refl _)
  rw [show RSS (rqs ls) = .lst ls.length (flat R1 (rqs ls)) by simp [RSS, rqs]]
  exact this

noncomputable def b89 : Code := Try.f89.body.getD .skip
noncomputable def B89_0 : Code := (bodyC (bodyC (sndC (fstC (sndC (sndC b89))))))
noncomputable def K89_0 : List It := .lp B89_0 :: .blk 0 :: .code (sndC (sndC (sndC b89))) :: []
theorem xl89_0 {fi : FI} {env : Env} {σ : St} : exI TT fi K89_0 env σ = exI TT fi (.code B89_0 :: K89_0) env σ := by unfold K89_0; exact xI_lp
noncomputable def R89_0_0 : List It := .code (sndC (sndC (sndC b89))) :: []
theorem eK89_0_0 : exitA 0 K89_0 = some R89_0_0 := rfl
noncomputable def B89_1 : Code := (bodyC (bodyC (sndC (sndC (bodyC (fstC (sndC (sndC (bodyC (bodyC (sndC (fstC (sndC (sndC b89))))))))))))))
noncomputable def K89_1 : List It := .lp B89_1 :: .blk 2 :: .blk 1 :: .code (sndC (sndC (sndC (bodyC (bodyC (sndC (fstC (sndC (sndC b89))))))))) :: K89_0
theorem xl89_1 {fi : FI} {env : Env} {σ : St} : exI TT fi K89_1 env σ = exI TT fi (.code B89_1 :: K89_1) env σ := by unfold K89_1; exact xI_lp
noncomputable def R89_1_2 : List It := .blk 1 :: .code (sndC (sndC (sndC (bodyC (bodyC (sndC (fstC (sndC (sndC b89))))))))) :: K89_0
theorem eK89_1_2 : exitA 2 K89_1 = some R89_1_2 := rfl
noncomputable def R89_1_1 : List It := .code (sndC (sndC (sndC (bodyC (bodyC (sndC (fstC (sndC (sndC b89))))))))) :: K89_0
theorem eK89_1_1 : exitA 1 K89_1 = some R89_1_1 := rfl
theorem eK89_1_0 : exitA 0 K89_1 = some R89_0_0 := rfl
set_option maxHeartbeats 4000000 in
theorem s89k (n i k a : Nat) (cells pre x y d s : List AV) (z : Int) (σ σ2 : St) (hk : k < i) (l1 : cellsAt σ (.lp pre k) 1 = some [.lst a y]) (c1 : callI TT 78 [.lst a x, .lst a y] σ = some (.agg d, σ)) (hd : d.length = 3) (s1 : storeCellsA (σ.push ⟨[.bool false, .nilS, .nilS], 3, false⟩) σ.n 0 d = some σ2) (l2 : cellsAt σ2 (.ptr σ.n 0) 3 = some d) (l3 : cellsAt σ2 (.ptr 1 0) 3 = some s) (c2 : callI TT 73 [.agg d, .agg s] σ2 = some (.int .i64 z, σ2)) (hz : z ≤ 0) (hw : wrapA .i64 ((k : Int) + 1) = (k : Int) + 1) :
    exI TT (FI.of Try.f89 (TT.an 89)) K89_1 [(0, .lst n cells), (2, .ptr 0 0), (3, .ptr 1 0), (5, .lst a x), (10, .lst n cells), (11, .int .i64 n), (12, .int .i64 i), (19, .lst i pre), (20, .int .i64 i), (21, .int .i64 k)] σ = exI TT (FI.of Try.f89 (TT.an 89)) K89_1 [(0, .lst n cells), (2, .ptr 0 0), (3, .ptr 1 0), (5, .lst a x), (10, .lst n cells), (11, .int .i64 n), (12, .int .i64 i), (19, .lst i pre), (20, .int .i64 i), (21, .int .i64 ((k : Int) + 1))] σ2 := by
  rw [fi89]
  conv => lhs; rw [xl89_1]
  simp only [B89_1, b89, Try.f89, Option.getD, fstC, sndC, bodyC, thnC, elsC]
  simp (maxSteps := 1000000) (disch := omega) [eK89_0_0, eK89_1_2, eK89_1_1, eK89_1_0, getCells, takeN, dropN, fieldAddrA, allOne, AV.one, n_push, putN, overN, blt_dec, buildA, sizesOf, fillA, putCells, List.take_succ_cons, List.take_zero, List.drop_succ_cons, List.drop_zero, List.nil_append, List.cons_append, List.length_cons, List.length_nil, eqvs_dgs, hk, l1, c1, hd, s1, l2, l3, c2, hz, hw]
set_option maxHeartbeats 4000000 in
theorem s89t (n i k a : Nat) (cells pre x y d s : List AV) (z : Int) (σ σ2 σ3 : St) (hk : k < i) (l1 : cellsAt σ (.lp pre k) 1 = some [.lst a y]) (c1 : callI TT 78 [.lst a x, .lst a y] σ = some (.agg d, σ)) (hd : d.length = 3) (s1 : storeCellsA (σ.push ⟨[.bool false, .nilS, .nilS], 3, false⟩) σ.n 0 d = some σ2) (l2 : cellsAt σ2 (.ptr σ.n 0) 3 = some d) (l3 : cellsAt σ2 (.ptr 1 0) 3 = some s) (c2 : callI TT 73 [.agg d, .agg s] σ2 = some (.int .i64 z, σ2)) (hz : 0 < z) (s2 : storeCellsA σ2 1 0 d = some σ3) (hw : wrapA .i64 ((k : Int) + 1) = (k : Int) + 1) :
    exI TT (FI.of Try.f89 (TT.an 89)) K89_1 [(0, .lst n cells), (2, .ptr 0 0), (3, .ptr 1 0), (5, .lst a x), (10, .lst n cells), (11, .int .i64 n), (12, .int .i64 i), (19, .lst i pre), (20, .int .i64 i), (21, .int .i64 k)] σ = exI TT (FI.of Try.f89 (TT.an 89)) K89_1 [(0, .lst n cells), (2, .ptr 0 0), (3, .ptr 1 0), (5, .lst a x), (10, .lst n cells), (11, .int .i64 n), (12, .int .i64 i), (19, .lst i pre), (20, .int .i64 i), (21, .int .i64 ((k : Int) + 1))] σ3 := by
  rw [fi89]
  conv => lhs; rw [xl89_1]
  simp only [B89_1, b89, Try.f89, Option.getD, fstC, sndC, bodyC, thnC, elsC]
  simp (maxSteps := 1000000) (disch := omega) [eK89_0_0, eK89_1_2, eK89_1_1, eK89_1_0, getCells, takeN, dropN, fieldAddrA, allOne, AV.one, n_push, putN, overN, blt_dec, buildA, sizesOf, fillA, putCells, List.take_succ_cons, List.take_zero, List.drop_succ_cons, List.drop_zero, List.nil_append, List.cons_append, List.length_cons, List.length_nil, eqvs_dgs, hk, l1, c1, hd, s1, l2, l3, c2, hz, s2, hw]
set_option maxHeartbeats 4000000 in
theorem e89i (n i a : Nat) (cells pre x : List AV) (σ : St) (hw : wrapA .i64 ((i : Int) + 1) = (i : Int) + 1) :
    exI TT (FI.of Try.f89 (TT.an 89)) K89_1 [(0, .lst n cells), (2, .ptr 0 0), (3, .ptr 1 0), (5, .lst a x), (10, .lst n cells), (11, .int .i64 n), (12, .int .i64 i), (19, .lst i pre), (20, .int .i64 i), (21, .int .i64 i)] σ = exI TT (FI.of Try.f89 (TT.an 89)) K89_0 [(0, .lst n cells), (2, .ptr 0 0), (3, .ptr 1 0), (10, .lst n cells), (11, .int .i64 n), (12, .int .i64 ((i : Int) + 1))] σ := by
  rw [fi89]
  conv => lhs; rw [xl89_1]
  simp only [B89_1, b89, Try.f89, Option.getD, fstC, sndC, bodyC, thnC, elsC]
  simp (maxSteps := 1000000) (disch := omega) [eK89_0_0, eK89_1_2, eK89_1_1, eK89_1_0, getCells, takeN, dropN, fieldAddrA, allOne, AV.one, n_push, putN, overN, blt_dec, buildA, sizesOf, fillA, putCells, List.take_succ_cons, List.take_zero, List.drop_succ_cons, List.drop_zero, List.nil_append, List.cons_append, List.length_cons, List.length_nil, eqvs_dgs, hw]
  simp only [R89_1_2, b89, Try.f89, Option.getD, fstC, sndC, bodyC, thnC, elsC]
  simp (maxSteps := 1000000) (disch := omega) [eK89_0_0, eK89_1_2, eK89_1_1, eK89_1_0, getCells, takeN, dropN, fieldAddrA, allOne, AV.one, n_push, putN, overN, blt_dec, buildA, sizesOf, fillA, putCells, List.take_succ_cons, List.take_zero, List.drop_succ_cons, List.drop_zero, List.nil_append, List.cons_append, List.length_cons, List.length_nil, eqvs_dgs, hw]
set_option maxHeartbeats 4000000 in
theorem b89i (n i a : Nat) (cells pre x : List AV) (σ : St) (hi : i < n) (hi2 : i ≤ n) (l1 : cellsAt σ (.lp cells i) 1 = some [.lst a x]) (hp : getCells cells 0 i = some pre) :
    exI TT (FI.of Try.f89 (TT.an 89)) K89_0 [(0, .lst n cells), (2, .ptr 0 0), (3, .ptr 1 0), (10, .lst n cells), (11, .int .i64 n), (12, .int .i64 i)] σ = exI TT (FI.of Try.f89 (TT.an 89)) K89_1 [(0, .lst n cells), (2, .ptr 0 0), (3, .ptr 1 0), (5, .lst a x), (10, .lst n cells), (11, .int .i64 n), (12, .int .i64 i), (19, .lst i pre), (20, .int .i64 i), (21, .int .i64 0)] σ := by
  rw [fi89]
  conv => lhs; rw [xl89_0]
  simp only [B89_0, b89, Try.f89, Option.getD, fstC, sndC, bodyC, thnC, elsC]
  simp (maxSteps := 1000000) (disch := omega) [eK89_0_0, eK89_1_2, eK89_1_1, eK89_1_0, takeN, dropN, fieldAddrA, allOne, AV.one, n_push, putN, overN, blt_dec, buildA, sizesOf, fillA, putCells, List.take_succ_cons, List.take_zero, List.drop_succ_cons, List.drop_zero, List.nil_append, List.cons_append, List.length_cons, List.length_nil, eqvs_dgs, sliceA, Nat.zero_mul, Nat.mul_one, Nat.sub_zero, hi, hi2, l1, hp]
  rfl
set_option maxHeartbeats 4000000 in
theorem e89 (n : Nat) (cells s : List AV) (σ σ1 : St) (l3 : cellsAt σ (.ptr 1 0) 3 = some s) (hs : s.length = 3) (s1 : storeCellsA σ 0 0 s = some σ1) (l4 : cellsAt σ1 (.ptr 0 0) 3 = some s) :
    exI TT (FI.of Try.f89 (TT.an 89)) K89_0 [(0, .lst n cells), (2, .ptr 0 0), (3, .ptr 1 0), (10, .lst n cells), (11, .int .i64 n), (12, .int .i64 n)] σ = some (.agg s, σ1) := by
  rw [fi89]
  conv => lhs; rw [xl89_0]
  simp only [B89_0, b89, Try.f89, Option.getD, fstC, sndC, bodyC, thnC, elsC]
  simp (maxSteps := 1000000) (disch := omega) [eK89_0_0, eK89_1_2, eK89_1_1, eK89_1_0, getCells, takeN, dropN, fieldAddrA, allOne, AV.one, n_push, putN, overN, blt_dec, buildA, sizesOf, fillA, putCells, List.take_succ_cons, List.take_zero, List.drop_succ_cons, List.drop_zero, List.nil_append, List.cons_append, List.length_cons, List.length_nil, eqvs_dgs, l3, hs, s1, l4]
  simp only [R89_0_0, b89, Try.f89, Option.getD, fstC, sndC, bodyC, thnC, elsC]
  simp (maxSteps := 1000000) (disch := omega) [eK89_0_0, eK89_1_2, eK89_1_1, eK89_1_0, getCells, takeN, dropN, fieldAddrA, allOne, AV.one, n_push, putN, overN, blt_dec, buildA, sizesOf, fillA, putCells, List.take_succ_cons, List.take_zero, List.drop_succ_cons, List.drop_zero, List.nil_append, List.cons_append, List.length_cons, List.length_nil, eqvs_dgs, l3, hs, s1, l4]
set_option maxHeartbeats 4000000 in
theorem b89e (n : Nat) (cells o : List AV) (σ1 σ2 σ3 : St) (h1 : (⟨[], 0⟩ : St).push ⟨[.bool false, .nilS, .nilS], 3, false⟩ = σ1) (hn : σ1.n = 1) (c1 : callI TT 84 [.int .i64 0] σ1 = some (.agg o, σ1)) (ho : o.length = 3) (h2 : σ1.push ⟨[.bool false, .nilS, .nilS], 3, false⟩ = σ2) (s1 : storeCellsA σ2 1 0 o = some σ3) :
    exI TT (FI.of Try.f89 (TT.an 89)) [.code b89] (paramsE 0 [.lst n cells]) ⟨[], 0⟩ = exI TT (FI.of Try.f89 (TT.an 89)) K89_0 [(0, .lst n cells), (2, .ptr 0 0), (3, .ptr 1 0), (10, .lst n cells), (11, .int .i64 n), (12, .int .i64 0)] σ3 := by
  rw [fi89]
  simp only [b89, Try.f89, Option.getD, fstC, sndC, bodyC, thnC, elsC]
  simp (maxSteps := 1000000) (disch := omega) [eK89_0_0, eK89_1_2, eK89_1_1, eK89_1_0, getCells, takeN, dropN, fieldAddrA, allOne, AV.one, n_push, putN, overN, blt_dec, buildA, sizesOf, fillA, putCells, List.take_succ_cons, List.take_zero, List.drop_succ_cons, List.drop_zero, List.nil_append, List.cons_append, List.length_cons, List.length_nil, eqvs_dgs, h1, hn, c1, ho, h2, s1]
  rfl
/-- Rows as they come in: as many as long, of bounded numbers. -/
def Rows6 (p : List (List Rat)) : Prop := p.length ≤ 6 ∧ ∀ r ∈ p, r.length = p.length ∧ ∀ x ∈ r, Bd 60 x
theorem Rows6.dist {p : List (List Rat)} (h : Rows6 p) {i k : Nat} (hi : i < p.length) (hk : k < p.length) : Bd 1000 (distQ p[i] p[k]) := by
  obtain ⟨a1, a2⟩ := h.2 _ (List.getElem_mem hi)
  obtain ⟨b1, b2⟩ := h.2 _ (List.getElem_mem hk)
  have h1 := h.1
  exact (distQ_bd (by omega) a2 b2).mono (by rw [a1]; omega)
theorem spIn_bd {p : List (List Rat)} (h : Rows6 p) {i : Nat} (hi : i < p.length) : ∀ {k : Nat} {s : Rat}, k ≤ i → Bd 1000 s → Bd 1000 (spIn p i k s)
  | 0, s, _, hs => hs
  | k + 1, s, hk, hs => by
    rw [spIn]
    split
    · rw [getD_of hi, getD_of (by omega)]; exact h.dist hi (by omega)
    · exact spIn_bd h hi (by omega) hs
theorem spOut_bd {p : List (List Rat)} (h : Rows6 p) : ∀ {i : Nat}, i ≤ p.length → Bd 1000 (spOut p i)
  | 0, _ => (show Bd 2 (0 : Rat) from ⟨by decide +kernel, by decide +kernel⟩).mono (by decide)
  | i + 1, hi => spIn_bd h (by omega) (Nat.le_refl i) (spOut_bd h (by omega))
theorem m89 (p : List (List Rat)) (h : Rows6 p) (i : Nat) (hi : i < p.length) (s0 : Rat) (hs0 : Bd 1000 s0) : ∀ (m k : Nat) (σ : St), k + m = i → Bx σ 1 (RC (spIn p i k s0)) → (∃ z, Bx σ 0 z ∧ z.length = 3) →
    ∃ σ', exI TT (FI.of Try.f89 (TT.an 89)) K89_1 [(0, RSS p), (2, .ptr 0 0), (3, .ptr 1 0), (5, RS p[i]), (10, RSS p), (11, .int .i64 p.length), (12, .int .i64 i), (19, .lst i (flat R1 (p.take i))), (20, .int .i64 i), (21, .int .i64 k)] σ = exI TT (FI.of Try.f89 (TT.an 89)) K89_0 [(0, RSS p), (2, .ptr 0 0), (3, .ptr 1 0), (10, RSS p), (11, .int .i64 p.length), (12, .int .i64 ((i : Int) + 1))] σ' ∧ Bx σ' 1 (RC (spIn p i i s0)) ∧ (∃ z, Bx σ' 0 z ∧ z.length = 3) := by
  intro m
  induction m with
  | zero =>
    intro k σ hk hb hz
    obtain rfl : k = i := by omega
    exact ⟨σ, e89i p.length k _ (flat R1 p) _ _ σ (wrapA_id (by omega) (by have := h.1; omega)), hb, hz⟩
  | succ m ih =>
    intro k σ hk hb hz
    have hki : k < i := by omega
    have hkp : k < p.length := by omega
    have h6 := h.1
    obtain ⟨a1, a2⟩ := h.2 _ (List.getElem_mem hi)
    obtain ⟨b1, b2⟩ := h.2 _ (List.getElem_mem hkp)
    have hlen : (p[k]).length = (p[i]).length := by omega
    have hmul : ((p[i]).length + 1) * (2 * 60 + 3) ≤ 7 * 123 := Nat.mul_le_mul (by omega) (by decide)
    have c1 := (r78 p[i] p[k] hlen 60 a2 b2 (by omega)).pure σ rfl rfl
    have hd := h.dist hi hkp
    obtain ⟨σ2, d1, d2, d3, d4⟩ := new_box (σ := σ) (z := [.bool false, .nilS, .nilS]) (x := RC (distQ p[i] p[k])) (m := 3) rfl rfl
    have hb2 := hb.old d3
    have hsb := spIn_bd h hi (Nat.le_of_lt hki) hs0
    have c2 := r73 hd hsb (by decide) σ2 [RT (distQ p[i] p[k]), RT (spIn p i k s0)] rfl
    have hpre : cellsAt σ (.lp (flat R1 (p.take i)) k) 1 = some [RS p[k]] := by
      have := RSS_get (rs := p.take i) (i := k) (by rw [List.length_take]; omega) σ
      rw [this]; simp
    have e1 : RS p[k] = .lst (p[i]).length (flat RC p[k]) := by rw [RS, hlen]
    rw [e1] at hpre c1
    obtain ⟨z, hz, hzl⟩ := hz
    have hz2 := hz.old d3
    have hk1 : ((k + 1 : Nat) : Int) = (k : Int) + 1 := by omega
    have hw : wrapA .i64 ((k : Int) + 1) = (k : Int) + 1 := wrapA_id (by omega) (by omega)
    by_cases hc : 0 < cmpR (distQ p[i] p[k]) (spIn p i k s0)
    · obtain ⟨σ3, e1, e2, e3⟩ := hb2.st (ws := RC (distQ p[i] p[k])) rfl (RC_one _)
      have hsp : spIn p i (k + 1) s0 = distQ p[i] p[k] := by rw [spIn, getD_of hi, getD_of hkp, if_pos hc]
      obtain ⟨σ', k1, k2⟩ := ih (k + 1) σ3 (by omega) (by rw [hsp]; exact e2) ⟨z, hz2.but (by decide) e3, hzl⟩
      rw [hk1] at k1
      refine ⟨σ', ?_, k2⟩
      rw [← k1]
      exact s89t p.length i k _ (flat R1 p) _ _ _ _ _ _ σ σ2 σ3 hki hpre c1 rfl d1 (d2.rd rfl) (hb2.rd rfl) c2 hc e1 hw
    · have hsp : spIn p i (k + 1) s0 = spIn p i k s0 := by rw [spIn, getD_of hi, getD_of hkp, if_neg hc]
      obtain ⟨σ', k1, k2⟩ := ih (k + 1) σ2 (by omega) (by rw [hsp]; exact hb2) ⟨z, hz2, hzl⟩
      rw [hk1] at k1
      refine ⟨σ', ?_, k2⟩
      rw [← k1]
      exact s89k p.length i k _ (flat R1 p) _ _ _ _ _ _ σ σ2 hki hpre c1 rfl d1 (d2.rd rfl) (hb2.rd rfl) c2 (Int.not_lt.1 hc) hw
theorem l89 (p : List (List Rat)) (h : Rows6 p) : ∀ (m i : Nat) (σ : St), i + m = p.length → Bx σ 1 (RC (spOut p i)) → (∃ z, Bx σ 0 z ∧ z.length = 3) →
    ∃ σ', exI TT (FI.of Try.f89 (TT.an 89)) K89_0 [(0, RSS p), (2, .ptr 0 0), (3, .ptr 1 0), (10, RSS p), (11, .int .i64 p.length), (12, .int .i64 i)] σ = some (RT (spOut p p.length), σ') := by
  intro m
  induction m with
  | zero =>
    intro i σ hi hb hz
    obtain rfl : i = p.length := by omega
    obtain ⟨z, hz, hzl⟩ := hz
    obtain ⟨σ1, a1, a2, a3⟩ := hz.st (ws := RC (spOut p p.length)) (by rw [hzl]; rfl) (RC_one _)
    exact ⟨σ1, e89 p.length (flat R1 p) _ σ σ1 (hb.rd rfl) rfl a1 (a2.rd rfl)⟩
  | succ m ih =>
    intro i σ hi hb hz
    have hil : i < p.length := by omega
    obtain ⟨σ1, k1, k2, k3⟩ := m89 p h i hil (spOut p i) (spOut_bd h (by omega)) i 0 σ (by omega) hb hz
    obtain ⟨σ', k4⟩ := ih (i + 1) σ1 (by omega) k2 k3
    have hi1 : ((i + 1 : Nat) : Int) = (i : Int) + 1 := by omega
    rw [hi1] at k4
    refine ⟨σ', ?_⟩
    rw [← k4, ← k1]
    have hp : getCells (flat R1 p) 0 i = some (flat R1 (p.take i)) := by
      rw [getCells_eq, if_pos (by rw [flat_len R1_len]; omega), List.drop_zero]
      have e : flat R1 p = flat R1 (p.take i) ++ flat R1 (p.drop i) := by rw [← flat_app, List.take_append_drop]
      rw [e, List.take_left' (by rw [flat_len R1_len, List.length_take]; omega)]
    exact b89i p.length i _ (flat R1 p) _ _ σ hil (Nat.le_of_lt hil) (RSS_get hil σ) hp
theorem r89 (p : List (List Rat)) (h : Rows6 p) : FnF TT 89 [RSS p] (RT (spOut p p.length)) := by
  have co := fun σ : St => (r84 (n := 0) (by decide) (by decide)).pure σ rfl rfl
  have hb0 : Bx ((⟨[], 0⟩ : St).push ⟨[.bool false, .nilS, .nilS], 3, false⟩) 0 [.bool false, .nilS, .nilS] := Bx.push
  obtain ⟨σ3, d1, d2, d3, d4⟩ := new_box (σ := (⟨[], 0⟩ : St).push ⟨[.bool false, .nilS, .nilS], 3, false⟩) (z := [.bool false, .nilS, .nilS]) (x := RC (mkRat 0 1)) (m := 3) rfl rfl
  obtain ⟨σ', h1⟩ := l89 p h p.length 0 σ3 (by omega) d2 ⟨_, hb0.old d3, rfl⟩
  exact FnF.mkv (c := b89) fn89 rfl md89 ⟨σ', (b89e _ _ _ _ _ σ3 rfl rfl (co _) rfl rfl d1).trans h1⟩ (fun _ => rfl)
theorem rqs_rows {ls : List (List (Int × Int))} (h : isWk ls = true) : Rows6 (rqs ls) := by
  obtain ⟨h1, h2, h3⟩ := isWk_b h
  refine ⟨by simpa [rqs] using h2, fun r hr => ?_⟩
  obtain ⟨x, hx, rfl⟩ := List.mem_map.1 hr
  obtain ⟨e1, e2⟩ := h3 x hx
  exact ⟨by simp [rqs, e1], rq_bds (isCh_b e2).2.2.1⟩

set_option maxHeartbeats 4000000 in
theorem k32f (n : Nat) (cells : List AV) (c1 : ∀ σ, callI TT 22 [.agg [.lst n cells]] σ = some (.bool false, σ)) :
    ∃ σ', exI TT (FI.of Try.f32 (TT.an 32)) [.code (Try.f32.body.getD .skip)] (paramsE 0 [.agg [.lst n cells]]) ⟨[], 0⟩ = some (.tup [.agg [.int .i64 0, .int .i64 0], .bool false], σ') := by
  refine ex1 ?_
  rw [fi32]
  simp only [Try.f32, Option.getD]
  simp (maxSteps := 1000000) (disch := omega) [cellsAt, getCells, takeN, dropN, fieldAddrA, allOne, AV.one, n_push, storeCellsA, putN, overN, St.push, St.get, St.set, hget, hset, blt_dec, buildA, sizesOf, fillA, putCells, List.take_succ_cons, List.take_zero, List.drop_succ_cons, List.drop_zero, List.nil_append, List.cons_append, List.length_cons, List.length_nil, eqvs_dgs, c1]
set_option maxHeartbeats 4000000 in
theorem k32t (n m : Nat) (cells c2_ s : List AV) (a b : Int) (c : Bool) (c1 : ∀ σ, callI TT 22 [.agg [.lst n cells]] σ = some (.bool true, σ)) (c2 : ∀ σ, callI TT 90 [.agg [.lst n cells]] σ = some (.lst m c2_, σ)) (c3 : ∀ σ, callI TT 89 [.lst m c2_] σ = some (.agg s, σ)) (c4 : ∀ σ, callI TT 80 [.agg s] σ = some (.tup [.agg [.int .i64 a, .int .i64 b], .bool c], σ)) :
    ∃ σ', exI TT (FI.of Try.f32 (TT.an 32)) [.code (Try.f32.body.getD .skip)] (paramsE 0 [.agg [.lst n cells]]) ⟨[], 0⟩ = some (.tup [.agg [.int .i64 a, .int .i64 b], .bool c], σ') := by
  refine ex1 ?_
  rw [fi32]
  simp only [Try.f32, Option.getD]
  simp (maxSteps := 1000000) (disch := omega) [cellsAt, getCells, takeN, dropN, fieldAddrA, allOne, AV.one, n_push, storeCellsA, putN, overN, St.push, St.get, St.set, hget, hset, blt_dec, buildA, sizesOf, fillA, putCells, List.take_succ_cons, List.take_zero, List.drop_succ_cons, List.drop_zero, List.nil_append, List.cons_append, List.length_cons, List.length_nil, eqvs_dgs, c1, c2, c3, c4]
theorem r32 (ls : List (List (Int × Int))) (hr : ∀ r ∈ ls, r.length ≤ 10000000) : FnV TT 32 [.agg [FSS ls]] (valCon ls) := by
  have c1 := fun σ : St => r22 ls hr σ [.agg [FSS ls]] rfl
  unfold valCon
  cases h : isWk ls with
  | true =>
    rw [h] at c1
    obtain ⟨h1, h2, h3⟩ := isWk_b h
    have c2 := r90 ls (fun r hr => ⟨(isCh_b (h3 r hr).2).2.2.1, by have := (h3 r hr).1; omega⟩) (by omega)
    have h6 := rqs_rows h
    have c3 := r89 (rqs ls) h6
    have c4 := r80 (spOut_bd h6 (Nat.le_refl _)) (by decide)
    have hl : (rqs ls).length = ls.length := by simp [rqs]
    rw [hl] at c3 c4
    rw [if_pos rfl]
    generalize spOut (rqs ls) ls.length = d at *
    have f1 := frA_frz d
    have f2 := frA_scal d
    obtain ⟨a, b, c, hR⟩ := frA_is d
    rw [hR] at c4 f1 f2 ⊢
    exact FnV.mk fn32 rfl md32 (k32t _ _ _ _ _ a b c c1 (fun σ => c2.pure σ rfl rfl) (fun σ => c3.pure σ rfl rfl) (fun σ => c4 σ _ rfl)) f1 f2
  | false =>
    rw [h] at c1
    exact FnV.mk fn32 rfl md32 (k32f _ _ c1) (fun _ => rfl) rfl

noncomputable def b31 : Code := Try.f31.body.getD .skip
noncomputable def B31_0 : Code := (bodyC (bodyC (sndC (fstC (sndC (sndC (sndC b31)))))))
noncomputable def K31_0 : List It := .lp B31_0 :: .blk 0 :: .code (sndC (sndC (sndC (sndC b31)))) :: []
theorem xl31_0 {fi : FI} {env : Env} {σ : St} : exI TT fi K31_0 env σ = exI TT fi (.code B31_0 :: K31_0) env σ := by unfold K31_0; exact xI_lp
noncomputable def R31_0_0 : List It := .code (sndC (sndC (sndC (sndC b31)))) :: []
theorem eK31_0_0 : exitA 0 K31_0 = some R31_0_0 := rfl
noncomputable def B31_1 : Code := (bodyC (bodyC (sndC (bodyC (fstC (sndC (bodyC (bodyC (sndC (fstC (sndC (sndC (sndC b31)))))))))))))
noncomputable def K31_1 : List It := .lp B31_1 :: .blk 2 :: .blk 1 :: .code (sndC (sndC (bodyC (bodyC (sndC (fstC (sndC (sndC (sndC b31))))))))) :: K31_0
theorem xl31_1 {fi : FI} {env : Env} {σ : St} : exI TT fi K31_1 env σ = exI TT fi (.code B31_1 :: K31_1) env σ := by unfold K31_1; exact xI_lp
noncomputable def R31_1_2 : List It := .blk 1 :: .code (sndC (sndC (bodyC (bodyC (sndC (fstC (sndC (sndC (sndC b31))))))))) :: K31_0
theorem eK31_1_2 : exitA 2 K31_1 = some R31_1_2 := rfl
noncomputable def R31_1_1 : List It := .code (sndC (sndC (bodyC (bodyC (sndC (fstC (sndC (sndC (sndC b31))))))))) :: K31_0
theorem eK31_1_1 : exitA 1 K31_1 = some R31_1_1 := rfl
theorem eK31_1_0 : exitA 0 K31_1 = some R31_0_0 := rfl
set_option maxHeartbeats 4000000 in
theorem s31k (n i k a : Nat) (cells x y u v d s : List AV) (z : Int) (σ σ2 : St) (hk : k < i) (hi : i < n) (l0 : cellsAt σ (.ptr 0 0) 1 = some [.lst n cells]) (g1 : cellsAt σ (.lp cells i) 1 = some [.lst a x]) (g2 : cellsAt σ (.lp cells k) 1 = some [.lst a y]) (c1 : ∀ σ, callI TT 77 [.lst a x] σ = some (.lst a u, σ)) (c2 : ∀ σ, callI TT 77 [.lst a y] σ = some (.lst a v, σ)) (c3 : ∀ σ, callI TT 76 [.lst a u, .lst a v] σ = some (.agg d, σ)) (hd : d.length = 6) (hex : eqvs x x = true) (hey : eqvs y y = true) (hec : eqvs cells cells = true) (s1 : storeCellsA (σ.push ⟨[.bool false, .nilS, .nilS, .bool false, .int .i64 0, .int .i64 0], 6, false⟩) σ.n 0 d = some σ2) (l2 : cellsAt σ2 (.ptr σ.n 0) 6 = some d) (l3 : cellsAt σ2 (.ptr 2 0) 6 = some s) (c4 : callI TT 88 [.agg d, .agg s] σ2 = some (.int .i64 z, σ2)) (hz : z ≤ 0) (hw : wrapA .i64 ((k : Int) + 1) = (k : Int) + 1) :
    exI TT (FI.of Try.f31 (TT.an 31)) K31_1 [(1, .ptr 0 0), (2, .ptr 1 0), (4, .ptr 2 0), (5, .int .i64 i), (6, .int .i64 k)] σ = exI TT (FI.of Try.f31 (TT.an 31)) K31_1 [(1, .ptr 0 0), (2, .ptr 1 0), (4, .ptr 2 0), (5, .int .i64 i), (6, .int .i64 ((k : Int) + 1))] σ2 := by
  rw [fi31]
  conv => lhs; rw [xl31_1]
  simp only [B31_1, b31, Try.f31, Option.getD, fstC, sndC, bodyC, thnC, elsC]
  simp (maxSteps := 1000000) (disch := omega) [eK31_0_0, eK31_1_2, eK31_1_1, eK31_1_0, getCells, takeN, dropN, fieldAddrA, allOne, AV.one, n_push, putN, overN, blt_dec, buildA, sizesOf, fillA, putCells, List.take_succ_cons, List.take_zero, List.drop_succ_cons, List.drop_zero, List.nil_append, List.cons_append, List.length_cons, List.length_nil, eqvs_dgs, hk, hi, l0, g1, g2, c1, c2, c3, hd, hex, hey, hec, s1, l2, l3, c4, hz, hw]
set_option maxHeartbeats 4000000 in
theorem s31t (n i k a : Nat) (cells x y u v d s : List AV) (z : Int) (σ σ2 σ3 : St) (hk : k < i) (hi : i < n) (l0 : cellsAt σ (.ptr 0 0) 1 = some [.lst n cells]) (g1 : cellsAt σ (.lp cells i) 1 = some [.lst a x]) (g2 : cellsAt σ (.lp cells k) 1 = some [.lst a y]) (c1 : ∀ σ, callI TT 77 [.lst a x] σ = some (.lst a u, σ)) (c2 : ∀ σ, callI TT 77 [.lst a y] σ = some (.lst a v, σ)) (c3 : ∀ σ, callI TT 76 [.lst a u, .lst a v] σ = some (.agg d, σ)) (hd : d.length = 6) (hex : eqvs x x = true) (hey : eqvs y y = true) (hec : eqvs cells cells = true) (s1 : storeCellsA (σ.push ⟨[.bool false, .nilS, .nilS, .bool false, .int .i64 0, .int .i64 0], 6, false⟩) σ.n 0 d = some σ2) (l2 : cellsAt σ2 (.ptr σ.n 0) 6 = some d) (l3 : cellsAt σ2 (.ptr 2 0) 6 = some s) (c4 : callI TT 88 [.agg d, .agg s] σ2 = some (.int .i64 z, σ2)) (hz : 0 < z) (s2 : storeCellsA σ2 2 0 d = some σ3) (hw : wrapA .i64 ((k : Int) + 1) = (k : Int) + 1) :
    exI TT (FI.of Try.f31 (TT.an 31)) K31_1 [(1, .ptr 0 0), (2, .ptr 1 0), (4, .ptr 2 0), (5, .int .i64 i), (6, .int .i64 k)] σ = exI TT (FI.of Try.f31 (TT.an 31)) K31_1 [(1, .ptr 0 0), (2, .ptr 1 0), (4, .ptr 2 0), (5, .int .i64 i), (6, .int .i64 ((k : Int) + 1))] σ3 := by
  rw [fi31]
  conv => lhs; rw [xl31_1]
  simp only [B31_1, b31, Try.f31, Option.getD, fstC, sndC, bodyC, thnC, elsC]
  simp (maxSteps := 1000000) (disch := omega) [eK31_0_0, eK31_1_2, eK31_1_1, eK31_1_0, getCells, takeN, dropN, fieldAddrA, allOne, AV.one, n_push, putN, overN, blt_dec, buildA, sizesOf, fillA, putCells, List.take_succ_cons, List.take_zero, List.drop_succ_cons, List.drop_zero, List.nil_append, List.cons_append, List.length_cons, List.length_nil, eqvs_dgs, hk, hi, l0, g1, g2, c1, c2, c3, hd, hex, hey, hec, s1, l2, l3, c4, hz, s2, hw]
set_option maxHeartbeats 4000000 in
theorem e31i (i : Nat) (σ : St) (hw : wrapA .i64 ((i : Int) + 1) = (i : Int) + 1) :
    exI TT (FI.of Try.f31 (TT.an 31)) K31_1 [(1, .ptr 0 0), (2, .ptr 1 0), (4, .ptr 2 0), (5, .int .i64 i), (6, .int .i64 i)] σ = exI TT (FI.of Try.f31 (TT.an 31)) K31_0 [(1, .ptr 0 0), (2, .ptr 1 0), (4, .ptr 2 0), (5, .int .i64 ((i : Int) + 1))] σ := by
  rw [fi31]
  conv => lhs; rw [xl31_1]
  simp only [B31_1, b31, Try.f31, Option.getD, fstC, sndC, bodyC, thnC, elsC]
  simp (maxSteps := 1000000) (disch := omega) [eK31_0_0, eK31_1_2, eK31_1_1, eK31_1_0, getCells, takeN, dropN, fieldAddrA, allOne, AV.one, n_push, putN, overN, blt_dec, buildA, sizesOf, fillA, putCells, List.take_succ_cons, List.take_zero, List.drop_succ_cons, List.drop_zero, List.nil_append, List.cons_append, List.length_cons, List.length_nil, eqvs_dgs, hw]
  simp only [R31_1_2, b31, Try.f31, Option.getD, fstC, sndC, bodyC, thnC, elsC]
  simp (maxSteps := 1000000) (disch := omega) [eK31_0_0, eK31_1_2, eK31_1_1, eK31_1_0, getCells, takeN, dropN, fieldAddrA, allOne, AV.one, n_push, putN, overN, blt_dec, buildA, sizesOf, fillA, putCells, List.take_succ_cons, List.take_zero, List.drop_succ_cons, List.drop_zero, List.nil_append, List.cons_append, List.length_cons, List.length_nil, eqvs_dgs, hw]
set_option maxHeartbeats 4000000 in
theorem b31i (n i : Nat) (cells : List AV) (σ : St) (hi : i < n) (l0 : cellsAt σ (.ptr 0 0) 1 = some [.lst n cells]) :
    exI TT (FI.of Try.f31 (TT.an 31)) K31_0 [(1, .ptr 0 0), (2, .ptr 1 0), (4, .ptr 2 0), (5, .int .i64 i)] σ = exI TT (FI.of Try.f31 (TT.an 31)) K31_1 [(1, .ptr 0 0), (2, .ptr 1 0), (4, .ptr 2 0), (5, .int .i64 i), (6, .int .i64 0)] σ := by
  rw [fi31]
  conv => lhs; rw [xl31_0]
  simp only [B31_0, b31, Try.f31, Option.getD, fstC, sndC, bodyC, thnC, elsC]
  simp (maxSteps := 1000000) (disch := omega) [eK31_0_0, eK31_1_2, eK31_1_1, eK31_1_0, getCells, takeN, dropN, fieldAddrA, allOne, AV.one, n_push, putN, overN, blt_dec, buildA, sizesOf, fillA, putCells, List.take_succ_cons, List.take_zero, List.drop_succ_cons, List.drop_zero, List.nil_append, List.cons_append, List.length_cons, List.length_nil, eqvs_dgs, hi, l0]
  rfl
set_option maxHeartbeats 4000000 in
theorem e31 (n : Nat) (cells s : List AV) (a_ b_ : Int) (c_ : Bool) (σ σ1 : St) (l0 : cellsAt σ (.ptr 0 0) 1 = some [.lst n cells]) (l3 : cellsAt σ (.ptr 2 0) 6 = some s) (c2 : callI TT 75 [.agg s] σ = some (.tup [.agg [.int .i64 a_, .int .i64 b_], .bool c_], σ)) (s1 : storeCellsA σ 1 0 [.int .i64 a_, .int .i64 b_] = some σ1) (l4 : cellsAt σ1 (.ptr 1 0) 2 = some [.int .i64 a_, .int .i64 b_]) :
    exI TT (FI.of Try.f31 (TT.an 31)) K31_0 [(1, .ptr 0 0), (2, .ptr 1 0), (4, .ptr 2 0), (5, .int .i64 n)] σ = some (.tup [.agg [.int .i64 a_, .int .i64 b_], .bool c_], σ1) := by
  rw [fi31]
  conv => lhs; rw [xl31_0]
  simp only [B31_0, b31, Try.f31, Option.getD, fstC, sndC, bodyC, thnC, elsC]
  simp (maxSteps := 1000000) (disch := omega) [eK31_0_0, eK31_1_2, eK31_1_1, eK31_1_0, getCells, takeN, dropN, fieldAddrA, allOne, AV.one, n_push, putN, overN, blt_dec, buildA, sizesOf, fillA, putCells, List.take_succ_cons, List.take_zero, List.drop_succ_cons, List.drop_zero, List.nil_append, List.cons_append, List.length_cons, List.length_nil, eqvs_dgs, l0, l3, c2, s1, l4]
  simp only [R31_0_0, b31, Try.f31, Option.getD, fstC, sndC, bodyC, thnC, elsC]
  simp (maxSteps := 1000000) (disch := omega) [eK31_0_0, eK31_1_2, eK31_1_1, eK31_1_0, getCells, takeN, dropN, fieldAddrA, allOne, AV.one, n_push, putN, overN, blt_dec, buildA, sizesOf, fillA, putCells, List.take_succ_cons, List.take_zero, List.drop_succ_cons, List.drop_zero, List.nil_append, List.cons_append, List.length_cons, List.length_nil, eqvs_dgs, l0, l3, c2, s1, l4]
set_option maxHeartbeats 4000000 in
theorem b31t (n : Nat) (cells o : List AV) (σ0 σ1 σ2 σ3 : St) (h1 : (⟨[], 0⟩ : St).push ⟨[.lst n cells], 1, false⟩ = σ0) (hn0 : σ0.n = 1) (h2 : σ0.push ⟨[.int .i64 0, .int .i64 0], 2, false⟩ = σ1) (hn : σ1.n = 2) (c0 : callI TT 61 [.ptr 0 0] σ1 = some (.bool true, σ1)) (c1 : callI TT 87 [] σ1 = some (.agg [.int .i64 0, .int .i64 1], σ1)) (c2 : callI TT 82 [.agg [.int .i64 0, .int .i64 1]] σ1 = some (.agg o, σ1)) (ho : o.length = 6) (h3 : σ1.push ⟨[.bool false, .nilS, .nilS, .bool false, .int .i64 0, .int .i64 0], 6, false⟩ = σ2) (s1 : storeCellsA σ2 2 0 o = some σ3) :
    exI TT (FI.of Try.f31 (TT.an 31)) [.code b31] (paramsE 0 [.agg [.lst n cells]]) ⟨[], 0⟩ = exI TT (FI.of Try.f31 (TT.an 31)) K31_0 [(1, .ptr 0 0), (2, .ptr 1 0), (4, .ptr 2 0), (5, .int .i64 0)] σ3 := by
  rw [fi31]
  simp only [b31, Try.f31, Option.getD, fstC, sndC, bodyC, thnC, elsC]
  simp (maxSteps := 1000000) (disch := omega) [eK31_0_0, eK31_1_2, eK31_1_1, eK31_1_0, getCells, takeN, dropN, fieldAddrA, allOne, AV.one, n_push, putN, overN, blt_dec, buildA, sizesOf, fillA, putCells, List.take_succ_cons, List.take_zero, List.drop_succ_cons, List.drop_zero, List.nil_append, List.cons_append, List.length_cons, List.length_nil, eqvs_dgs, h1, hn0, h2, hn, c0, c1, c2, ho, h3, s1]
  rfl
set_option maxHeartbeats 4000000 in
theorem k31f (n : Nat) (cells : List AV) (σ0 σ1 σ2 : St) (h1 : (⟨[], 0⟩ : St).push ⟨[.lst n cells], 1, false⟩ = σ0) (hn0 : σ0.n = 1) (h2 : σ0.push ⟨[.int .i64 0, .int .i64 0], 2, false⟩ = σ1) (c0 : callI TT 61 [.ptr 0 0] σ1 = some (.bool false, σ1)) (s1 : storeCellsA σ1 1 0 [.int .i64 0, .int .i64 0] = some σ2) (l1 : cellsAt σ2 (.ptr 1 0) 2 = some [.int .i64 0, .int .i64 0]) :
    ∃ σ', exI TT (FI.of Try.f31 (TT.an 31)) [.code (Try.f31.body.getD .skip)] (paramsE 0 [.agg [.lst n cells]]) ⟨[], 0⟩ = some (.tup [.agg [.int .i64 0, .int .i64 0], .bool false], σ') := by
  refine ex1 ?_
  rw [fi31]
  simp only [Try.f31, Option.getD]
  simp (maxSteps := 1000000) (disch := omega) [eK31_0_0, eK31_1_2, eK31_1_1, eK31_1_0, getCells, takeN, dropN, fieldAddrA, allOne, AV.one, n_push, putN, overN, blt_dec, buildA, sizesOf, fillA, putCells, List.take_succ_cons, List.take_zero, List.drop_succ_cons, List.drop_zero, List.nil_append, List.cons_append, List.length_cons, List.length_nil, eqvs_dgs, h1, hn0, h2, c0, s1, l1]
theorem m31 (ls : List (List (Int × Int))) (h : isWk ls = true) (i : Nat) (hi : i < ls.length) (s0 : Rat) : ∀ (m k : Nat) (σ : St) (s : Wd), k + m = i → Bx σ 0 [FSS ls] → Bx σ 2 (WC s) → s.q = spIn (rqs ls) i k s0 → s.ok 2000 → (∃ z, Bx σ 1 z ∧ z.length = 2) →
    ∃ σ' s', exI TT (FI.of Try.f31 (TT.an 31)) K31_1 [(1, .ptr 0 0), (2, .ptr 1 0), (4, .ptr 2 0), (5, .int .i64 i), (6, .int .i64 k)] σ = exI TT (FI.of Try.f31 (TT.an 31)) K31_0 [(1, .ptr 0 0), (2, .ptr 1 0), (4, .ptr 2 0), (5, .int .i64 ((i : Int) + 1))] σ' ∧ Bx σ' 0 [FSS ls] ∧ Bx σ' 2 (WC s') ∧ s'.q = spIn (rqs ls) i i s0 ∧ s'.ok 2000 ∧ (∃ z, Bx σ' 1 z ∧ z.length = 2) := by
  intro m
  obtain ⟨h1, h2, h3⟩ := isWk_b h
  induction m with
  | zero =>
    intro k σ s hk hl hb hq ho hz
    obtain rfl : k = i := by omega
    exact ⟨σ, s, e31i k σ (wrapA_id (by omega) (by omega)), hl, hb, hq, ho, hz⟩
  | succ m ih =>
    intro k σ s hk hl hb hq ho hz
    have hki : k < i := by omega
    have hkp : k < ls.length := by omega
    obtain ⟨a1, a2⟩ := h3 _ (List.getElem_mem hi)
    obtain ⟨b1, b2⟩ := h3 _ (List.getElem_mem hkp)
    have va := (isCh_b a2).2.2.1
    have vb := (isCh_b b2).2.2.1
    have cu := r77 ls[i] va (by omega)
    have cv := r77 ls[k] vb (by omega)
    have hlen : (ls[k].map wof).length = (ls[i].map wof).length := by simp [a1, b1]
    have hll : (ls[i].map wof).length = ls.length := by simp [a1]
    have hmul : (ls.length + 2) * (2 * 60 + 200) ≤ 8 * 320 := Nat.mul_le_mul (by omega) (by decide)
    have cd := r76 (ls[i].map wof) (ls[k].map wof) hlen 60 (wof_ok va) (wof_ok vb) (by decide) (by rw [hll]; omega)
    obtain ⟨q1, o1⟩ := wdist_q hlen (wof_ok va) (wof_ok vb)
    rw [hll] at o1
    have o2 := o1.mono (show _ ≤ 2000 by omega)
    rw [map_wof_q, map_wof_q] at q1
    have hri : i < (rqs ls).length := by simpa [rqs] using hi
    have hrk : k < (rqs ls).length := by simpa [rqs] using hkp
    have q2 : (wdist (ls[i].map wof) (ls[k].map wof)).q = distQ (rqs ls)[i] (rqs ls)[k] := by rw [q1]; simp [rqs]
    generalize wdist (ls[i].map wof) (ls[k].map wof) = d at *
    have eu : Go.Proofs.Ytihoeimlkbjgmaa.WS (ls[i].map wof) = .lst ls.length (flat WC (ls[i].map wof)) := by rw [Go.Proofs.Ytihoeimlkbjgmaa.WS, hll]
    have ev : Go.Proofs.Ytihoeimlkbjgmaa.WS (ls[k].map wof) = .lst ls.length (flat WC (ls[k].map wof)) := by rw [Go.Proofs.Ytihoeimlkbjgmaa.WS, hlen, hll]
    have fu : FS ls[i] = .lst ls.length (flat FC ls[i]) := by rw [FS, a1]
    have fv : FS ls[k] = .lst ls.length (flat FC ls[k]) := by rw [FS, b1]
    have g1 := FSS_get hi σ
    have g2 := FSS_get hkp σ
    rw [eu] at cu cd
    rw [ev] at cv cd
    rw [fu] at cu g1
    rw [fv] at cv g2
    obtain ⟨σ2, d1, d2, d3, d4⟩ := new_box (σ := σ) (z := [.bool false, .nilS, .nilS, .bool false, .int .i64 0, .int .i64 0]) (x := WC d) (m := 6) rfl (WC_one _)
    have hb2 := hb.old d3
    have hl2 := hl.old d3
    have hbl := hb.lt
    have c4 := r88 o2 ho (by decide) (by decide) σ2 [WA d, WA s] rfl
    rw [q2, hq] at c4
    obtain ⟨z, hz, hzl⟩ := hz
    have hz2 := hz.old d3
    have hk1 : ((k + 1 : Nat) : Int) = (k : Int) + 1 := by omega
    have hw : wrapA .i64 ((k : Int) + 1) = (k : Int) + 1 := wrapA_id (by omega) (by omega)
    by_cases hc : 0 < cmpR (distQ (rqs ls)[i] (rqs ls)[k]) (spIn (rqs ls) i k s0)
    · obtain ⟨σ3, e1, e2, e3⟩ := hb2.st (ws := WC d) rfl (WC_one _)
      have hsp : spIn (rqs ls) i (k + 1) s0 = distQ (rqs ls)[i] (rqs ls)[k] := by rw [spIn, getD_of hri, getD_of hrk, if_pos hc]
      obtain ⟨σ', s', k1, k2⟩ := ih (k + 1) σ3 d (by omega) (hl2.but (by decide) e3) e2 (by rw [hsp, q2]) o2 ⟨z, hz2.but (by decide) e3, hzl⟩
      rw [hk1] at k1
      refine ⟨σ', s', ?_, k2⟩
      rw [← k1]
      exact s31t ls.length i k _ (flat F1 ls) _ _ _ _ _ _ _ σ σ2 σ3 hki hi (hl.rd rfl) g1 g2 (fun σ => cu.pure σ rfl rfl) (fun σ => cv.pure σ rfl rfl) (fun σ => cd.pure σ rfl rfl) rfl (FS_eqv _) (FS_eqv _) (F1_eqv ls) d1 (d2.rd rfl) (hb2.rd rfl) c4 hc e1 hw
    · have hsp : spIn (rqs ls) i (k + 1) s0 = spIn (rqs ls) i k s0 := by rw [spIn, getD_of hri, getD_of hrk, if_neg hc]
      obtain ⟨σ', s', k1, k2⟩ := ih (k + 1) σ2 s (by omega) hl2 hb2 (by rw [hsp, hq]) ho ⟨z, hz2, hzl⟩
      rw [hk1] at k1
      refine ⟨σ', s', ?_, k2⟩
      rw [← k1]
      exact s31k ls.length i k _ (flat F1 ls) _ _ _ _ _ _ _ σ σ2 hki hi (hl.rd rfl) g1 g2 (fun σ => cu.pure σ rfl rfl) (fun σ => cv.pure σ rfl rfl) (fun σ => cd.pure σ rfl rfl) rfl (FS_eqv _) (FS_eqv _) (F1_eqv ls) d1 (d2.rd rfl) (hb2.rd rfl) c4 (Int.not_lt.1 hc) hw
theorem l31 (ls : List (List (Int × Int))) (h : isWk ls = true) : ∀ (m i : Nat) (σ : St) (s : Wd), i + m = ls.length → Bx σ 0 [FSS ls] → Bx σ 2 (WC s) → s.q = spOut (rqs ls) i → s.ok 2000 → (∃ z, Bx σ 1 z ∧ z.length = 2) →
    ∃ σ', exI TT (FI.of Try.f31 (TT.an 31)) K31_0 [(1, .ptr 0 0), (2, .ptr 1 0), (4, .ptr 2 0), (5, .int .i64 i)] σ = some (frA (spOut (rqs ls) ls.length), σ') := by
  intro m
  induction m with
  | zero =>
    intro i σ s hi hl hb hq ho hz
    obtain rfl : i = ls.length := by omega
    obtain ⟨z, hz, hzl⟩ := hz
    have cg := r75 ho (by decide) σ [WA s] rfl
    rw [hq] at cg
    obtain ⟨a, b_, c, hR⟩ := frA_is (spOut (rqs ls) ls.length)
    rw [hR] at cg ⊢
    obtain ⟨σ1, a1, a2, a3⟩ := hz.st (ws := [.int .i64 a, .int .i64 b_]) (by rw [hzl]; rfl) rfl
    exact ⟨σ1, e31 ls.length (flat F1 ls) _ a b_ c σ σ1 (hl.rd rfl) (hb.rd rfl) cg a1 (a2.rd rfl)⟩
  | succ m ih =>
    intro i σ s hi hl hb hq ho hz
    have hil : i < ls.length := by omega
    obtain ⟨σ1, s', k1, k2, k3, k4, k5, k6⟩ := m31 ls h i hil (spOut (rqs ls) i) i 0 σ s (by omega) hl hb (by rw [hq]; rfl) ho hz
    obtain ⟨σ', k7⟩ := ih (i + 1) σ1 s' (by omega) k2 k3 (by rw [k4]; rfl) k5 k6
    have hi1 : ((i + 1 : Nat) : Int) = (i : Int) + 1 := by omega
    rw [hi1] at k7
    refine ⟨σ', ?_⟩
    rw [← k7, ← k1]
    exact b31i ls.length i (flat F1 ls) σ hil (hl.rd rfl)
theorem r31 (ls : List (List (Int × Int))) (hr : ∀ r ∈ ls, r.length ≤ 10000000) : FnV TT 31 [.agg [FSS ls]] (valCon ls) := by
  have hx0 : Bx ((⟨[], 0⟩ : St).push ⟨[FSS ls], 1, false⟩) 0 [FSS ls] := Bx.push
  have hx1 : Bx (((⟨[], 0⟩ : St).push ⟨[FSS ls], 1, false⟩).push ⟨[.int .i64 0, .int .i64 0], 2, false⟩) 1 [.int .i64 0, .int .i64 0] := Bx.push
  have hx0' := hx0.old (Old.push (x := ⟨[.int .i64 0, .int .i64 0], 2, false⟩))
  have c0 := r61 ls hr 0 _ (hx0'.rd (n := 1) rfl)
  unfold valCon
  cases h : isWk ls with
  | true =>
    rw [h] at c0
    rw [if_pos rfl]
    have cz := fun σ : St => v87 σ [] rfl
    have co := fun σ : St => (r82 (n := 0) (d := 1) (by decide)).pure σ rfl rfl
    obtain ⟨σ3, d1, d2, d3, d4⟩ := new_box (σ := ((⟨[], 0⟩ : St).push ⟨[FSS ls], 1, false⟩).push ⟨[.int .i64 0, .int .i64 0], 2, false⟩) (z := [.bool false, .nilS, .nilS, .bool false, .int .i64 0, .int .i64 0]) (x := WC (.f 0 1)) (m := 6) rfl (WC_one _)
    obtain ⟨σ', k1⟩ := l31 ls h ls.length 0 σ3 (.f 0 1) (by omega) (hx0'.old d3) d2 (by rw [zero_q]; rfl) (zero_ok.mono (by decide)) ⟨_, hx1.old d3, rfl⟩
    exact FnV.mk (c := b31) fn31 rfl md31 ⟨σ', (b31t _ _ _ _ _ _ σ3 rfl rfl rfl rfl c0 (cz _) (co _) rfl rfl d1).trans k1⟩ (frA_frz _) (frA_scal _)
  | false =>
    rw [h] at c0
    obtain ⟨σ2, a1, a2, a3⟩ := hx1.st (ws := [.int .i64 0, .int .i64 0]) rfl rfl
    exact FnV.mk fn31 rfl md31 (k31f _ _ _ _ σ2 rfl rfl rfl c0 a1 (a2.rd rfl)) (fun _ => rfl) rfl

set_option maxHeartbeats 4000000 in
theorem z8 (n : Nat) (cells : List AV) (z : Int) (c1 : ∀ σ, callI TT 19 [.agg [.lst n cells], .int .i64 1048576] σ = some (.int .i64 z, σ)) (hz : z < 0) :
    ∃ σ', exI TT (FI.of Try.f8 (TT.an 8)) [.code (Try.f8.body.getD .skip)] (paramsE 0 [.agg [.lst n cells]]) ⟨[], 0⟩ = some (.bool true, σ') := by
  refine ex1 ?_
  rw [fi8]
  simp only [Try.f8, Option.getD]
  simp (maxSteps := 1000000) (disch := omega) [cellsAt, getCells, takeN, dropN, fieldAddrA, allOne, AV.one, n_push, storeCellsA, putN, overN, St.push, St.get, St.set, hget, hset, blt_dec, buildA, sizesOf, fillA, putCells, List.take_succ_cons, List.take_zero, List.drop_succ_cons, List.drop_zero, List.nil_append, List.cons_append, List.length_cons, List.length_nil, eqvs_dgs, c1, hz]
set_option maxHeartbeats 4000000 in
theorem k8 (n : Nat) (cells : List AV) (z a b : Int) (c : Bool) (c1 : ∀ σ, callI TT 19 [.agg [.lst n cells], .int .i64 1048576] σ = some (.int .i64 z, σ)) (hz : 0 ≤ z) (c2 : ∀ σ, callI TT 21 [.agg [.lst n cells]] σ = some (.agg [.lst n cells], σ)) (c3 : ∀ σ, callI TT 31 [.agg [.lst n cells]] σ = some (.tup [.agg [.int .i64 a, .int .i64 b], .bool c], σ)) (c4 : ∀ σ, callI TT 32 [.agg [.lst n cells]] σ = some (.tup [.agg [.int .i64 a, .int .i64 b], .bool c], σ)) (c5 : ∀ σ, callI TT 23 [.agg [.lst n cells], .agg [.lst n cells]] σ = some (.bool true, σ)) (c6 : ∀ σ, callI TT 26 [.agg [.int .i64 a, .int .i64 b], .agg [.int .i64 a, .int .i64 b]] σ = some (.bool true, σ)) (he : eqvs cells cells = true) :
    ∃ σ', exI TT (FI.of Try.f8 (TT.an 8)) [.code (Try.f8.body.getD .skip)] (paramsE 0 [.agg [.lst n cells]]) ⟨[], 0⟩ = some (.bool true, σ') := by
  refine ex1 ?_
  rw [fi8]
  simp only [Try.f8, Option.getD]
  cases c <;>
  simp (maxSteps := 1000000) (disch := omega) [cellsAt, getCells, takeN, dropN, fieldAddrA, allOne, AV.one, n_push, storeCellsA, putN, overN, St.push, St.get, St.set, hget, hset, blt_dec, buildA, sizesOf, fillA, putCells, List.take_succ_cons, List.take_zero, List.drop_succ_cons, List.drop_zero, List.nil_append, List.cons_append, List.length_cons, List.length_nil, eqvs_dgs, c1, hz, c2, c3, c4, c5, c6, he]
theorem w8 (ls : List (List (Int × Int))) (hn : ls.length ≤ maxLen) (hr : ∀ r ∈ ls, r.length ≤ maxLen) : FnV TT 8 [.agg [FSS ls]] (.bool true) := by
  obtain ⟨z, c1, c2⟩ := r19 ls hn hr
  have c1 := fun σ : St => c1 σ [.agg [FSS ls], .int .i64 1048576] rfl
  by_cases hz : 0 ≤ z
  · obtain ⟨h1, h2⟩ := c2 hz
    have hs : ls.length ≤ 10000000 := by omega
    have hr' : ∀ r ∈ ls, r.length ≤ 10000000 := fun r hr => Nat.le_trans (h2 r hr) (by decide)
    have c3 := r31 ls hr'
    have c4 := r32 ls hr'
    obtain ⟨a, b, c, hR⟩ := valCon_is ls
    rw [hR] at c3 c4
    exact FnV.mk fn8 rfl md8 (k8 _ _ z a b c c1 hz (fun σ => (r21 ls hs hr').pure σ rfl rfl) (fun σ => c3 σ [.agg [FSS ls]] rfl) (fun σ => c4 σ [.agg [FSS ls]] rfl) (fun σ => r23 ls hs hr' σ [.agg [FSS ls], .agg [FSS ls]] rfl) (fun σ => r26 a b σ [.agg [.int .i64 a, .int .i64 b], .agg [.int .i64 a, .int .i64 b]] rfl) (F1_eqv ls)) (fun _ => rfl) rfl
  · exact FnV.mk fn8 rfl md8 (z8 _ _ z c1 (by omega)) (fun _ => rfl) rfl

end Go.Proofs.Ytihoeimlkbjgmaa
