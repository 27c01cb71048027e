/- Numbers of any size, fractions, chances: contracts. Nothing is claimed here; no condition. -/
import Derived.Test.YtihoeimlkbjgmaaQd
set_option linter.unusedSimpArgs false
set_option linter.unusedVariables false
namespace Go.Proofs.Ytihoeimlkbjgmaa
open Go Go.Abs Go.Nm
attribute [local simp] xI_seq xI_region xI_ret regA regOps runOps opStep wantedA opA evo evos calleeA lk nif_eq putE paramsE valS val2 keepE restrict finA resA binA binInt ofConst ofConst1 loadA TK.isAgg asVar unA builtinA lenOpA lenA indexAddrA evPairs storeA AV.cellsOf pairsOf xI_nil binBool gcE evOpt runTr pairsOk pairOk sameVal AV.eqv lastOf lstAt eqvs boundA indexA regF twoOf prsOf memI runTrF selF runTr2 freshOp scals AV.scal xI_block xI_loopH xI_condM xI_exitM xI_skip xI_blk exitA List.getElem?_cons_zero List.getElem?_cons_succ List.getElem?_toArray List.getElem?_nil ileb_t ileb_f ieqb_t ieqb_f inB_t wrapA_id lp_read ieqb_self Nat.blt_eq cond_true cond_false ty2 ty3 ty4 ty22 ty25 ty41 ty48 ty58 ty76 ty90 ty92 ty97 ty99 ty101
theorem v87 : FnV TT 87 [] (.agg [.int .i64 0, .int .i64 1]) := by
  refine FnV.mk (c := Try.f87.body.getD .skip) fn87 rfl md87 (ex1 ?_) (fun _ => rfl) rfl
  rw [fi87]
  simp only [Try.f87, Option.getD]
  simp (maxSteps := 1000000) (disch := omega) [cellsAt, getCells, takeN, dropN, fieldAddrA, allOne, AV.one, n_push, storeCellsA, putN, overN, St.push, St.get, St.set, hget, hset, blt_dec, buildA, sizesOf, fillA, putCells, List.take_succ_cons, List.take_zero, List.drop_succ_cons, List.drop_zero, List.nil_append, List.cons_append, List.length_cons, List.length_nil, eqvs_dgs]

set_option maxHeartbeats 8000000 in
theorem k82 (n d : Int) (m : Nat) (b : Bool) (nx ny : Nat) (lx ly : List Nat) (hb : (!ileb 0 n) = b) (hw : wrapA .i64 (-n) = -n) (c1 : ∀ σ, callI TT 134 [.int .i64 n, .int .i64 (-n)] σ = some (.int .i64 m, σ)) (c2 : ∀ σ, callI TT 145 [.int .i64 m] σ = some (.lst nx (dgs .i64 lx), σ)) (c3 : ∀ σ, callI TT 145 [.int .i64 d] σ = some (.lst ny (dgs .i64 ly), σ)) :
    ∃ σ1, exI TT (FI.of Try.f82 (TT.an 82)) [.code (Try.f82.body.getD .skip)] (paramsE 0 [.agg [.int .i64 n, .int .i64 d]]) ⟨[], 0⟩ = some (.agg [.bool b, .lst nx (dgs .i64 lx), .lst ny (dgs .i64 ly), .bool true, .int .i64 n, .int .i64 d], σ1) := by
  refine ex1 ?_
  rw [fi82]
  simp only [Try.f82, Option.getD]
  simp (maxSteps := 1000000) (disch := omega) [cellsAt, getCells, takeN, dropN, fieldAddrA, allOne, AV.one, n_push, storeCellsA, putN, overN, St.push, St.get, St.set, hget, hset, blt_dec, buildA, sizesOf, fillA, putCells, List.take_succ_cons, List.take_zero, List.drop_succ_cons, List.drop_zero, List.nil_append, List.cons_append, List.length_cons, List.length_nil, eqvs_dgs, hb, hw, c1, c2, c3]

set_option maxHeartbeats 8000000 in
theorem k141f (b1 b2 b' : Bool) (a1 a2 c1_ c2_ r1 r2 r3 r4 : Int) (nx ny nu nv nt nw : Nat) (lx ly lu lv lt lw : List Nat) (c1 : ∀ σ, callI TT 103 [.agg [.int .i64 a1, .int .i64 a2], .agg [.int .i64 c1_, .int .i64 c2_]] σ = some (.tup [.agg [.int .i64 r1, .int .i64 r2], .bool true], σ)) (c2 : ∀ σ, callI TT 82 [.agg [.int .i64 r1, .int .i64 r2]] σ = some (.agg [.bool b', .lst nt (dgs .i64 lt), .lst nw (dgs .i64 lw), .bool true, .int .i64 r3, .int .i64 r4], σ)) :
    ∃ σ1, exI TT (FI.of Try.f141 (TT.an 141)) [.code (Try.f141.body.getD .skip)] (paramsE 0 [.agg [.bool b1, .lst nx (dgs .i64 lx), .lst ny (dgs .i64 ly), .bool true, .int .i64 a1, .int .i64 a2], .agg [.bool b2, .lst nu (dgs .i64 lu), .lst nv (dgs .i64 lv), .bool true, .int .i64 c1_, .int .i64 c2_]]) ⟨[], 0⟩ = some (.agg [.bool b', .lst nt (dgs .i64 lt), .lst nw (dgs .i64 lw), .bool true, .int .i64 r3, .int .i64 r4], σ1) := by
  refine ex1 ?_
  rw [fi141]
  simp only [Try.f141, Option.getD]
  simp (maxSteps := 1000000) (disch := omega) [cellsAt, getCells, takeN, dropN, fieldAddrA, allOne, AV.one, n_push, storeCellsA, putN, overN, St.push, St.get, St.set, hget, hset, blt_dec, buildA, sizesOf, fillA, putCells, List.take_succ_cons, List.take_zero, List.drop_succ_cons, List.drop_zero, List.nil_append, List.cons_append, List.length_cons, List.length_nil, eqvs_dgs, c1, c2]
set_option maxHeartbeats 8000000 in
theorem k141s (fa fb b1 b2 : Bool) (a1 a2 c1_ c2_ : Int) (nx ny nu nv np nq nw nt : Nat) (lx ly lu lv lp lq lw lt : List Nat) (hf : fa = true → fb = true → ∀ σ, callI TT 103 [.agg [.int .i64 a1, .int .i64 a2], .agg [.int .i64 c1_, .int .i64 c2_]] σ = some (.tup [.agg [.int .i64 0, .int .i64 0], .bool false], σ)) (c1 : ∀ σ, callI TT 144 [.lst nx (dgs .i64 lx), .lst nv (dgs .i64 lv)] σ = some (.lst np (dgs .i64 lp), σ)) (c2 : ∀ σ, callI TT 144 [.lst nu (dgs .i64 lu), .lst ny (dgs .i64 ly)] σ = some (.lst nq (dgs .i64 lq), σ)) (c3 : ∀ σ, callI TT 144 [.lst ny (dgs .i64 ly), .lst nv (dgs .i64 lv)] σ = some (.lst nw (dgs .i64 lw), σ)) (hb : b1 = b2) (c4 : ∀ σ, callI TT 179 [.lst np (dgs .i64 lp), .lst nq (dgs .i64 lq)] σ = some (.lst nt (dgs .i64 lt), σ)) : ∃ σ1, exI TT (FI.of Try.f141 (TT.an 141)) [.code (Try.f141.body.getD .skip)] (paramsE 0 [.agg [.bool b1, .lst nx (dgs .i64 lx), .lst ny (dgs .i64 ly), .bool fa, .int .i64 a1, .int .i64 a2], .agg [.bool b2, .lst nu (dgs .i64 lu), .lst nv (dgs .i64 lv), .bool fb, .int .i64 c1_, .int .i64 c2_]]) ⟨[], 0⟩ = some (.agg [.bool b1, .lst nt (dgs .i64 lt), .lst nw (dgs .i64 lw), .bool false, .int .i64 0, .int .i64 0], σ1) := by
  subst hb
  refine ex1 ?_
  rw [fi141]
  simp only [Try.f141, Option.getD]
  cases b1
  ·
    cases fa
    · cases fb <;>
        simp (maxSteps := 1000000) (disch := omega) [cellsAt, getCells, takeN, dropN, fieldAddrA, allOne, AV.one, n_push, storeCellsA, putN, overN, St.push, St.get, St.set, hget, hset, blt_dec, buildA, sizesOf, fillA, putCells, List.take_succ_cons, List.take_zero, List.drop_succ_cons, List.drop_zero, List.nil_append, List.cons_append, List.length_cons, List.length_nil, eqvs_dgs, c1, c2, c3, c4]
    · cases fb
      ·
        simp (maxSteps := 1000000) (disch := omega) [cellsAt, getCells, takeN, dropN, fieldAddrA, allOne, AV.one, n_push, storeCellsA, putN, overN, St.push, St.get, St.set, hget, hset, blt_dec, buildA, sizesOf, fillA, putCells, List.take_succ_cons, List.take_zero, List.drop_succ_cons, List.drop_zero, List.nil_append, List.cons_append, List.length_cons, List.length_nil, eqvs_dgs, c1, c2, c3, c4]
      · have hf := hf rfl rfl
        simp (maxSteps := 1000000) (disch := omega) [cellsAt, getCells, takeN, dropN, fieldAddrA, allOne, AV.one, n_push, storeCellsA, putN, overN, St.push, St.get, St.set, hget, hset, blt_dec, buildA, sizesOf, fillA, putCells, List.take_succ_cons, List.take_zero, List.drop_succ_cons, List.drop_zero, List.nil_append, List.cons_append, List.length_cons, List.length_nil, eqvs_dgs, c1, c2, c3, c4, hf]
  ·
    cases fa
    · cases fb <;>
        simp (maxSteps := 1000000) (disch := omega) [cellsAt, getCells, takeN, dropN, fieldAddrA, allOne, AV.one, n_push, storeCellsA, putN, overN, St.push, St.get, St.set, hget, hset, blt_dec, buildA, sizesOf, fillA, putCells, List.take_succ_cons, List.take_zero, List.drop_succ_cons, List.drop_zero, List.nil_append, List.cons_append, List.length_cons, List.length_nil, eqvs_dgs, c1, c2, c3, c4]
    · cases fb
      ·
        simp (maxSteps := 1000000) (disch := omega) [cellsAt, getCells, takeN, dropN, fieldAddrA, allOne, AV.one, n_push, storeCellsA, putN, overN, St.push, St.get, St.set, hget, hset, blt_dec, buildA, sizesOf, fillA, putCells, List.take_succ_cons, List.take_zero, List.drop_succ_cons, List.drop_zero, List.nil_append, List.cons_append, List.length_cons, List.length_nil, eqvs_dgs, c1, c2, c3, c4]
      · have hf := hf rfl rfl
        simp (maxSteps := 1000000) (disch := omega) [cellsAt, getCells, takeN, dropN, fieldAddrA, allOne, AV.one, n_push, storeCellsA, putN, overN, St.push, St.get, St.set, hget, hset, blt_dec, buildA, sizesOf, fillA, putCells, List.take_succ_cons, List.take_zero, List.drop_succ_cons, List.drop_zero, List.nil_append, List.cons_append, List.length_cons, List.length_nil, eqvs_dgs, c1, c2, c3, c4, hf]
set_option maxHeartbeats 8000000 in
theorem k141l (fa fb b1 b2 : Bool) (a1 a2 c1_ c2_ : Int) (nx ny nu nv np nq nw nt : Nat) (lx ly lu lv lp lq lw lt : List Nat) (z : Int) (hf : fa = true → fb = true → ∀ σ, callI TT 103 [.agg [.int .i64 a1, .int .i64 a2], .agg [.int .i64 c1_, .int .i64 c2_]] σ = some (.tup [.agg [.int .i64 0, .int .i64 0], .bool false], σ)) (c1 : ∀ σ, callI TT 144 [.lst nx (dgs .i64 lx), .lst nv (dgs .i64 lv)] σ = some (.lst np (dgs .i64 lp), σ)) (c2 : ∀ σ, callI TT 144 [.lst nu (dgs .i64 lu), .lst ny (dgs .i64 ly)] σ = some (.lst nq (dgs .i64 lq), σ)) (c3 : ∀ σ, callI TT 144 [.lst ny (dgs .i64 ly), .lst nv (dgs .i64 lv)] σ = some (.lst nw (dgs .i64 lw), σ)) (hb : b1 ≠ b2) (c5 : ∀ σ, callI TT 178 [.lst np (dgs .i64 lp), .lst nq (dgs .i64 lq)] σ = some (.int .i64 z, σ)) (hz : z < 0) (c4 : ∀ σ, callI TT 180 [.lst nq (dgs .i64 lq), .lst np (dgs .i64 lp)] σ = some (.lst nt (dgs .i64 lt), σ)) : ∃ σ1, exI TT (FI.of Try.f141 (TT.an 141)) [.code (Try.f141.body.getD .skip)] (paramsE 0 [.agg [.bool b1, .lst nx (dgs .i64 lx), .lst ny (dgs .i64 ly), .bool fa, .int .i64 a1, .int .i64 a2], .agg [.bool b2, .lst nu (dgs .i64 lu), .lst nv (dgs .i64 lv), .bool fb, .int .i64 c1_, .int .i64 c2_]]) ⟨[], 0⟩ = some (.agg [.bool b2, .lst nt (dgs .i64 lt), .lst nw (dgs .i64 lw), .bool false, .int .i64 0, .int .i64 0], σ1) := by
  refine ex1 ?_
  rw [fi141]
  simp only [Try.f141, Option.getD]
  cases b1 <;> cases b2 <;> first | exact absurd rfl hb | skip
  ·
    cases fa
    · cases fb <;>
        simp (maxSteps := 1000000) (disch := omega) [cellsAt, getCells, takeN, dropN, fieldAddrA, allOne, AV.one, n_push, storeCellsA, putN, overN, St.push, St.get, St.set, hget, hset, blt_dec, buildA, sizesOf, fillA, putCells, List.take_succ_cons, List.take_zero, List.drop_succ_cons, List.drop_zero, List.nil_append, List.cons_append, List.length_cons, List.length_nil, eqvs_dgs, c1, c2, c3, c4, c5]
    · cases fb
      ·
        simp (maxSteps := 1000000) (disch := omega) [cellsAt, getCells, takeN, dropN, fieldAddrA, allOne, AV.one, n_push, storeCellsA, putN, overN, St.push, St.get, St.set, hget, hset, blt_dec, buildA, sizesOf, fillA, putCells, List.take_succ_cons, List.take_zero, List.drop_succ_cons, List.drop_zero, List.nil_append, List.cons_append, List.length_cons, List.length_nil, eqvs_dgs, c1, c2, c3, c4, c5]
      · have hf := hf rfl rfl
        simp (maxSteps := 1000000) (disch := omega) [cellsAt, getCells, takeN, dropN, fieldAddrA, allOne, AV.one, n_push, storeCellsA, putN, overN, St.push, St.get, St.set, hget, hset, blt_dec, buildA, sizesOf, fillA, putCells, List.take_succ_cons, List.take_zero, List.drop_succ_cons, List.drop_zero, List.nil_append, List.cons_append, List.length_cons, List.length_nil, eqvs_dgs, c1, c2, c3, c4, c5, hf]
  ·
    cases fa
    · cases fb <;>
        simp (maxSteps := 1000000) (disch := omega) [cellsAt, getCells, takeN, dropN, fieldAddrA, allOne, AV.one, n_push, storeCellsA, putN, overN, St.push, St.get, St.set, hget, hset, blt_dec, buildA, sizesOf, fillA, putCells, List.take_succ_cons, List.take_zero, List.drop_succ_cons, List.drop_zero, List.nil_append, List.cons_append, List.length_cons, List.length_nil, eqvs_dgs, c1, c2, c3, c4, c5]
    · cases fb
      ·
        simp (maxSteps := 1000000) (disch := omega) [cellsAt, getCells, takeN, dropN, fieldAddrA, allOne, AV.one, n_push, storeCellsA, putN, overN, St.push, St.get, St.set, hget, hset, blt_dec, buildA, sizesOf, fillA, putCells, List.take_succ_cons, List.take_zero, List.drop_succ_cons, List.drop_zero, List.nil_append, List.cons_append, List.length_cons, List.length_nil, eqvs_dgs, c1, c2, c3, c4, c5]
      · have hf := hf rfl rfl
        simp (maxSteps := 1000000) (disch := omega) [cellsAt, getCells, takeN, dropN, fieldAddrA, allOne, AV.one, n_push, storeCellsA, putN, overN, St.push, St.get, St.set, hget, hset, blt_dec, buildA, sizesOf, fillA, putCells, List.take_succ_cons, List.take_zero, List.drop_succ_cons, List.drop_zero, List.nil_append, List.cons_append, List.length_cons, List.length_nil, eqvs_dgs, c1, c2, c3, c4, c5, hf]
set_option maxHeartbeats 8000000 in
theorem k141g (fa fb b1 b2 : Bool) (a1 a2 c1_ c2_ : Int) (nx ny nu nv np nq nw nt : Nat) (lx ly lu lv lp lq lw lt : List Nat) (z : Int) (hf : fa = true → fb = true → ∀ σ, callI TT 103 [.agg [.int .i64 a1, .int .i64 a2], .agg [.int .i64 c1_, .int .i64 c2_]] σ = some (.tup [.agg [.int .i64 0, .int .i64 0], .bool false], σ)) (c1 : ∀ σ, callI TT 144 [.lst nx (dgs .i64 lx), .lst nv (dgs .i64 lv)] σ = some (.lst np (dgs .i64 lp), σ)) (c2 : ∀ σ, callI TT 144 [.lst nu (dgs .i64 lu), .lst ny (dgs .i64 ly)] σ = some (.lst nq (dgs .i64 lq), σ)) (c3 : ∀ σ, callI TT 144 [.lst ny (dgs .i64 ly), .lst nv (dgs .i64 lv)] σ = some (.lst nw (dgs .i64 lw), σ)) (hb : b1 ≠ b2) (c5 : ∀ σ, callI TT 178 [.lst np (dgs .i64 lp), .lst nq (dgs .i64 lq)] σ = some (.int .i64 z, σ)) (hz : 0 ≤ z) (c4 : ∀ σ, callI TT 180 [.lst np (dgs .i64 lp), .lst nq (dgs .i64 lq)] σ = some (.lst nt (dgs .i64 lt), σ)) : ∃ σ1, exI TT (FI.of Try.f141 (TT.an 141)) [.code (Try.f141.body.getD .skip)] (paramsE 0 [.agg [.bool b1, .lst nx (dgs .i64 lx), .lst ny (dgs .i64 ly), .bool fa, .int .i64 a1, .int .i64 a2], .agg [.bool b2, .lst nu (dgs .i64 lu), .lst nv (dgs .i64 lv), .bool fb, .int .i64 c1_, .int .i64 c2_]]) ⟨[], 0⟩ = some (.agg [.bool b1, .lst nt (dgs .i64 lt), .lst nw (dgs .i64 lw), .bool false, .int .i64 0, .int .i64 0], σ1) := by
  refine ex1 ?_
  rw [fi141]
  simp only [Try.f141, Option.getD]
  cases b1 <;> cases b2 <;> first | exact absurd rfl hb | skip
  ·
    cases fa
    · cases fb <;>
        simp (maxSteps := 1000000) (disch := omega) [cellsAt, getCells, takeN, dropN, fieldAddrA, allOne, AV.one, n_push, storeCellsA, putN, overN, St.push, St.get, St.set, hget, hset, blt_dec, buildA, sizesOf, fillA, putCells, List.take_succ_cons, List.take_zero, List.drop_succ_cons, List.drop_zero, List.nil_append, List.cons_append, List.length_cons, List.length_nil, eqvs_dgs, c1, c2, c3, c4, c5]
    · cases fb
      ·
        simp (maxSteps := 1000000) (disch := omega) [cellsAt, getCells, takeN, dropN, fieldAddrA, allOne, AV.one, n_push, storeCellsA, putN, overN, St.push, St.get, St.set, hget, hset, blt_dec, buildA, sizesOf, fillA, putCells, List.take_succ_cons, List.take_zero, List.drop_succ_cons, List.drop_zero, List.nil_append, List.cons_append, List.length_cons, List.length_nil, eqvs_dgs, c1, c2, c3, c4, c5]
      · have hf := hf rfl rfl
        simp (maxSteps := 1000000) (disch := omega) [cellsAt, getCells, takeN, dropN, fieldAddrA, allOne, AV.one, n_push, storeCellsA, putN, overN, St.push, St.get, St.set, hget, hset, blt_dec, buildA, sizesOf, fillA, putCells, List.take_succ_cons, List.take_zero, List.drop_succ_cons, List.drop_zero, List.nil_append, List.cons_append, List.length_cons, List.length_nil, eqvs_dgs, c1, c2, c3, c4, c5, hf]
  ·
    cases fa
    · cases fb <;>
        simp (maxSteps := 1000000) (disch := omega) [cellsAt, getCells, takeN, dropN, fieldAddrA, allOne, AV.one, n_push, storeCellsA, putN, overN, St.push, St.get, St.set, hget, hset, blt_dec, buildA, sizesOf, fillA, putCells, List.take_succ_cons, List.take_zero, List.drop_succ_cons, List.drop_zero, List.nil_append, List.cons_append, List.length_cons, List.length_nil, eqvs_dgs, c1, c2, c3, c4, c5]
    · cases fb
      ·
        simp (maxSteps := 1000000) (disch := omega) [cellsAt, getCells, takeN, dropN, fieldAddrA, allOne, AV.one, n_push, storeCellsA, putN, overN, St.push, St.get, St.set, hget, hset, blt_dec, buildA, sizesOf, fillA, putCells, List.take_succ_cons, List.take_zero, List.drop_succ_cons, List.drop_zero, List.nil_append, List.cons_append, List.length_cons, List.length_nil, eqvs_dgs, c1, c2, c3, c4, c5]
      · have hf := hf rfl rfl
        simp (maxSteps := 1000000) (disch := omega) [cellsAt, getCells, takeN, dropN, fieldAddrA, allOne, AV.one, n_push, storeCellsA, putN, overN, St.push, St.get, St.set, hget, hset, blt_dec, buildA, sizesOf, fillA, putCells, List.take_succ_cons, List.take_zero, List.drop_succ_cons, List.drop_zero, List.nil_append, List.cons_append, List.length_cons, List.length_nil, eqvs_dgs, c1, c2, c3, c4, c5, hf]

set_option maxHeartbeats 8000000 in
theorem k81f (b1 b2 b' : Bool) (a1 a2 c1_ c2_ r1 r2 r3 r4 : Int) (nx ny nu nv nt nw : Nat) (lx ly lu lv lt lw : List Nat) (c1 : ∀ σ, callI TT 105 [.agg [.int .i64 a1, .int .i64 a2], .agg [.int .i64 c1_, .int .i64 c2_]] σ = some (.tup [.agg [.int .i64 r1, .int .i64 r2], .bool true], σ)) (c2 : ∀ σ, callI TT 82 [.agg [.int .i64 r1, .int .i64 r2]] σ = some (.agg [.bool b', .lst nt (dgs .i64 lt), .lst nw (dgs .i64 lw), .bool true, .int .i64 r3, .int .i64 r4], σ)) :
    ∃ σ1, exI TT (FI.of Try.f81 (TT.an 81)) [.code (Try.f81.body.getD .skip)] (paramsE 0 [.agg [.bool b1, .lst nx (dgs .i64 lx), .lst ny (dgs .i64 ly), .bool true, .int .i64 a1, .int .i64 a2], .agg [.bool b2, .lst nu (dgs .i64 lu), .lst nv (dgs .i64 lv), .bool true, .int .i64 c1_, .int .i64 c2_]]) ⟨[], 0⟩ = some (.agg [.bool b', .lst nt (dgs .i64 lt), .lst nw (dgs .i64 lw), .bool true, .int .i64 r3, .int .i64 r4], σ1) := by
  refine ex1 ?_
  rw [fi81]
  simp only [Try.f81, Option.getD]
  simp (maxSteps := 1000000) (disch := omega) [cellsAt, getCells, takeN, dropN, fieldAddrA, allOne, AV.one, n_push, storeCellsA, putN, overN, St.push, St.get, St.set, hget, hset, blt_dec, buildA, sizesOf, fillA, putCells, List.take_succ_cons, List.take_zero, List.drop_succ_cons, List.drop_zero, List.nil_append, List.cons_append, List.length_cons, List.length_nil, eqvs_dgs, c1, c2]
set_option maxHeartbeats 8000000 in
theorem k81 (fa fb b1 b2 : Bool) (a1 a2 c1_ c2_ : Int) (nx ny nu nv nt nw : Nat) (lx ly lu lv lt lw : List Nat) (hf : fa = true → fb = true → ∀ σ, callI TT 105 [.agg [.int .i64 a1, .int .i64 a2], .agg [.int .i64 c1_, .int .i64 c2_]] σ = some (.tup [.agg [.int .i64 0, .int .i64 0], .bool false], σ)) (c1 : ∀ σ, callI TT 144 [.lst nx (dgs .i64 lx), .lst nu (dgs .i64 lu)] σ = some (.lst nt (dgs .i64 lt), σ)) (c2 : ∀ σ, callI TT 144 [.lst ny (dgs .i64 ly), .lst nv (dgs .i64 lv)] σ = some (.lst nw (dgs .i64 lw), σ)) : ∃ σ1, exI TT (FI.of Try.f81 (TT.an 81)) [.code (Try.f81.body.getD .skip)] (paramsE 0 [.agg [.bool b1, .lst nx (dgs .i64 lx), .lst ny (dgs .i64 ly), .bool fa, .int .i64 a1, .int .i64 a2], .agg [.bool b2, .lst nu (dgs .i64 lu), .lst nv (dgs .i64 lv), .bool fb, .int .i64 c1_, .int .i64 c2_]]) ⟨[], 0⟩ = some (.agg [.bool (b1 != b2), .lst nt (dgs .i64 lt), .lst nw (dgs .i64 lw), .bool false, .int .i64 0, .int .i64 0], σ1) := by
  refine ex1 ?_
  rw [fi81]
  simp only [Try.f81, Option.getD]
  cases b1 <;> cases b2
  ·
    cases fa
    · cases fb <;>
        simp (maxSteps := 1000000) (disch := omega) [cellsAt, getCells, takeN, dropN, fieldAddrA, allOne, AV.one, n_push, storeCellsA, putN, overN, St.push, St.get, St.set, hget, hset, blt_dec, buildA, sizesOf, fillA, putCells, List.take_succ_cons, List.take_zero, List.drop_succ_cons, List.drop_zero, List.nil_append, List.cons_append, List.length_cons, List.length_nil, eqvs_dgs, c1, c2]
    · cases fb
      ·
        simp (maxSteps := 1000000) (disch := omega) [cellsAt, getCells, takeN, dropN, fieldAddrA, allOne, AV.one, n_push, storeCellsA, putN, overN, St.push, St.get, St.set, hget, hset, blt_dec, buildA, sizesOf, fillA, putCells, List.take_succ_cons, List.take_zero, List.drop_succ_cons, List.drop_zero, List.nil_append, List.cons_append, List.length_cons, List.length_nil, eqvs_dgs, c1, c2]
      · have hf := hf rfl rfl
        simp (maxSteps := 1000000) (disch := omega) [cellsAt, getCells, takeN, dropN, fieldAddrA, allOne, AV.one, n_push, storeCellsA, putN, overN, St.push, St.get, St.set, hget, hset, blt_dec, buildA, sizesOf, fillA, putCells, List.take_succ_cons, List.take_zero, List.drop_succ_cons, List.drop_zero, List.nil_append, List.cons_append, List.length_cons, List.length_nil, eqvs_dgs, c1, c2, hf]
  ·
    cases fa
    · cases fb <;>
        simp (maxSteps := 1000000) (disch := omega) [cellsAt, getCells, takeN, dropN, fieldAddrA, allOne, AV.one, n_push, storeCellsA, putN, overN, St.push, St.get, St.set, hget, hset, blt_dec, buildA, sizesOf, fillA, putCells, List.take_succ_cons, List.take_zero, List.drop_succ_cons, List.drop_zero, List.nil_append, List.cons_append, List.length_cons, List.length_nil, eqvs_dgs, c1, c2]
    · cases fb
      ·
        simp (maxSteps := 1000000) (disch := omega) [cellsAt, getCells, takeN, dropN, fieldAddrA, allOne, AV.one, n_push, storeCellsA, putN, overN, St.push, St.get, St.set, hget, hset, blt_dec, buildA, sizesOf, fillA, putCells, List.take_succ_cons, List.take_zero, List.drop_succ_cons, List.drop_zero, List.nil_append, List.cons_append, List.length_cons, List.length_nil, eqvs_dgs, c1, c2]
      · have hf := hf rfl rfl
        simp (maxSteps := 1000000) (disch := omega) [cellsAt, getCells, takeN, dropN, fieldAddrA, allOne, AV.one, n_push, storeCellsA, putN, overN, St.push, St.get, St.set, hget, hset, blt_dec, buildA, sizesOf, fillA, putCells, List.take_succ_cons, List.take_zero, List.drop_succ_cons, List.drop_zero, List.nil_append, List.cons_append, List.length_cons, List.length_nil, eqvs_dgs, c1, c2, hf]
  ·
    cases fa
    · cases fb <;>
        simp (maxSteps := 1000000) (disch := omega) [cellsAt, getCells, takeN, dropN, fieldAddrA, allOne, AV.one, n_push, storeCellsA, putN, overN, St.push, St.get, St.set, hget, hset, blt_dec, buildA, sizesOf, fillA, putCells, List.take_succ_cons, List.take_zero, List.drop_succ_cons, List.drop_zero, List.nil_append, List.cons_append, List.length_cons, List.length_nil, eqvs_dgs, c1, c2]
    · cases fb
      ·
        simp (maxSteps := 1000000) (disch := omega) [cellsAt, getCells, takeN, dropN, fieldAddrA, allOne, AV.one, n_push, storeCellsA, putN, overN, St.push, St.get, St.set, hget, hset, blt_dec, buildA, sizesOf, fillA, putCells, List.take_succ_cons, List.take_zero, List.drop_succ_cons, List.drop_zero, List.nil_append, List.cons_append, List.length_cons, List.length_nil, eqvs_dgs, c1, c2]
      · have hf := hf rfl rfl
        simp (maxSteps := 1000000) (disch := omega) [cellsAt, getCells, takeN, dropN, fieldAddrA, allOne, AV.one, n_push, storeCellsA, putN, overN, St.push, St.get, St.set, hget, hset, blt_dec, buildA, sizesOf, fillA, putCells, List.take_succ_cons, List.take_zero, List.drop_succ_cons, List.drop_zero, List.nil_append, List.cons_append, List.length_cons, List.length_nil, eqvs_dgs, c1, c2, hf]
  ·
    cases fa
    · cases fb <;>
        simp (maxSteps := 1000000) (disch := omega) [cellsAt, getCells, takeN, dropN, fieldAddrA, allOne, AV.one, n_push, storeCellsA, putN, overN, St.push, St.get, St.set, hget, hset, blt_dec, buildA, sizesOf, fillA, putCells, List.take_succ_cons, List.take_zero, List.drop_succ_cons, List.drop_zero, List.nil_append, List.cons_append, List.length_cons, List.length_nil, eqvs_dgs, c1, c2]
    · cases fb
      ·
        simp (maxSteps := 1000000) (disch := omega) [cellsAt, getCells, takeN, dropN, fieldAddrA, allOne, AV.one, n_push, storeCellsA, putN, overN, St.push, St.get, St.set, hget, hset, blt_dec, buildA, sizesOf, fillA, putCells, List.take_succ_cons, List.take_zero, List.drop_succ_cons, List.drop_zero, List.nil_append, List.cons_append, List.length_cons, List.length_nil, eqvs_dgs, c1, c2]
      · have hf := hf rfl rfl
        simp (maxSteps := 1000000) (disch := omega) [cellsAt, getCells, takeN, dropN, fieldAddrA, allOne, AV.one, n_push, storeCellsA, putN, overN, St.push, St.get, St.set, hget, hset, blt_dec, buildA, sizesOf, fillA, putCells, List.take_succ_cons, List.take_zero, List.drop_succ_cons, List.drop_zero, List.nil_append, List.cons_append, List.length_cons, List.length_nil, eqvs_dgs, c1, c2, hf]

noncomputable def b139 : Code := Try.f139.body.getD .skip
noncomputable def B139_0 : Code := (bodyC (bodyC (fstC (sndC (sndC (sndC (sndC b139)))))))
noncomputable def K139_0 : List It := .lp B139_0 :: .blk 0 :: .code (sndC (sndC (sndC (sndC (sndC b139))))) :: []
theorem xl139_0 {fi : FI} {env : Env} {σ : St} : exI TT fi K139_0 env σ = exI TT fi (.code B139_0 :: K139_0) env σ := by unfold K139_0; exact xI_lp
noncomputable def R139_0_0 : List It := .code (sndC (sndC (sndC (sndC (sndC b139))))) :: []
theorem eK139_0_0 : exitA 0 K139_0 = some R139_0_0 := rfl
theorem k139f (b : Bool) (a1 a2 : Int) (nx ny : Nat) (lx ly : List Nat) : ∃ σ1, exI TT (FI.of Try.f139 (TT.an 139)) [.code b139] (paramsE 0 [.agg [.bool b, .lst nx (dgs .i64 lx), .lst ny (dgs .i64 ly), .bool true, .int .i64 a1, .int .i64 a2]]) ⟨[], 0⟩ = some (.agg [.bool b, .lst nx (dgs .i64 lx), .lst ny (dgs .i64 ly), .bool true, .int .i64 a1, .int .i64 a2], σ1) := by
  refine ex1 ?_
  rw [fi139]
  simp only [b139, Try.f139, Option.getD, fstC, sndC, bodyC, thnC, elsC]
  simp (maxSteps := 1000000) (disch := omega) [eK139_0_0, cellsAt, getCells, takeN, dropN, fieldAddrA, allOne, AV.one, n_push, storeCellsA, putN, overN, St.push, St.get, St.set, hget, hset, blt_dec, buildA, sizesOf, fillA, putCells, List.take_succ_cons, List.take_zero, List.drop_succ_cons, List.drop_zero, List.nil_append, List.cons_append, List.length_cons, List.length_nil, eqvs_dgs]
theorem k139b (b : Bool) (a1 a2 : Int) (nx ny : Nat) (lx ly : List Nat) : exI TT (FI.of Try.f139 (TT.an 139)) [.code b139] (paramsE 0 [.agg [.bool b, .lst nx (dgs .i64 lx), .lst ny (dgs .i64 ly), .bool false, .int .i64 a1, .int .i64 a2]]) ⟨[], 0⟩ = exI TT (FI.of Try.f139 (TT.an 139)) K139_0 [(1, .ptr 0 0), (2, .ptr 1 0), (3, .lst nx (dgs .i64 lx)), (4, .lst ny (dgs .i64 ly))] ⟨[(1, ⟨[.bool false, .nilS, .nilS, .bool false, .int .i64 0, .int .i64 0], 6, false⟩), (0, ⟨[.bool b, .lst nx (dgs .i64 lx), .lst ny (dgs .i64 ly), .bool false, .int .i64 a1, .int .i64 a2], 6, false⟩)], 2⟩ := by
  rw [fi139]
  simp only [b139, Try.f139, Option.getD, fstC, sndC, bodyC, thnC, elsC]
  simp (maxSteps := 1000000) (disch := omega) [eK139_0_0, cellsAt, getCells, takeN, dropN, fieldAddrA, allOne, AV.one, n_push, storeCellsA, putN, overN, St.push, St.get, St.set, hget, hset, blt_dec, buildA, sizesOf, fillA, putCells, List.take_succ_cons, List.take_zero, List.drop_succ_cons, List.drop_zero, List.nil_append, List.cons_append, List.length_cons, List.length_nil, eqvs_dgs]
  rfl
theorem k139s (p1 p2 : AV) (nx ny nr : Nat) (lx ly lr : List Nat) (q : AV) (σ : St) (hy : 0 < ny) (c1 : ∀ σ, callI TT 177 [.lst nx (dgs .i64 lx), .lst ny (dgs .i64 ly)] σ = some (.tup [q, .lst nr (dgs .i64 lr)], σ)) : exI TT (FI.of Try.f139 (TT.an 139)) K139_0 [(1, p1), (2, p2), (3, .lst nx (dgs .i64 lx)), (4, .lst ny (dgs .i64 ly))] σ = exI TT (FI.of Try.f139 (TT.an 139)) K139_0 [(1, p1), (2, p2), (3, .lst ny (dgs .i64 ly)), (4, .lst nr (dgs .i64 lr))] σ := by
  have hy0 : (0 : Int) < (ny : Int) := by omega
  rw [fi139]
  conv => lhs; rw [xl139_0]
  simp only [B139_0, b139, Try.f139, Option.getD, fstC, sndC, bodyC, thnC, elsC]
  simp (maxSteps := 1000000) (disch := omega) [eK139_0_0, c1]
set_option maxHeartbeats 8000000 in
theorem k139e (b : Bool) (a1 a2 : Int) (nx ny ng nt ns : Nat) (lx ly lg lt ls : List Nat) (r1 r2 : AV) (c1 : ∀ σ, callI TT 177 [.lst nx (dgs .i64 lx), .lst ng (dgs .i64 lg)] σ = some (.tup [.lst nt (dgs .i64 lt), r1], σ)) (c2 : ∀ σ, callI TT 177 [.lst ny (dgs .i64 ly), .lst ng (dgs .i64 lg)] σ = some (.tup [.lst ns (dgs .i64 ls), r2], σ)) : ∃ σ1, exI TT (FI.of Try.f139 (TT.an 139)) K139_0 [(1, .ptr 0 0), (2, .ptr 1 0), (3, .lst ng (dgs .i64 lg)), (4, .lst 0 (dgs .i64 []))] ⟨[(1, ⟨[.bool false, .nilS, .nilS, .bool false, .int .i64 0, .int .i64 0], 6, false⟩), (0, ⟨[.bool b, .lst nx (dgs .i64 lx), .lst ny (dgs .i64 ly), .bool false, .int .i64 a1, .int .i64 a2], 6, false⟩)], 2⟩ = some (.agg [.bool b, .lst nt (dgs .i64 lt), .lst ns (dgs .i64 ls), .bool false, .int .i64 0, .int .i64 0], σ1) := by
  refine ex1 ?_
  rw [fi139, xl139_0]
  simp only [B139_0, b139, Try.f139, Option.getD, fstC, sndC, bodyC, thnC, elsC]
  simp (maxSteps := 1000000) (disch := omega) [eK139_0_0, cellsAt, getCells, takeN, dropN, fieldAddrA, allOne, AV.one, n_push, storeCellsA, putN, overN, St.push, St.get, St.set, hget, hset, blt_dec, buildA, sizesOf, fillA, putCells, List.take_succ_cons, List.take_zero, List.drop_succ_cons, List.drop_zero, List.nil_append, List.cons_append, List.length_cons, List.length_nil, eqvs_dgs]
  simp only [R139_0_0, b139, Try.f139, Option.getD, fstC, sndC, bodyC, thnC, elsC]
  simp (maxSteps := 1000000) (disch := omega) [eK139_0_0, cellsAt, getCells, takeN, dropN, fieldAddrA, allOne, AV.one, n_push, storeCellsA, putN, overN, St.push, St.get, St.set, hget, hset, blt_dec, buildA, sizesOf, fillA, putCells, List.take_succ_cons, List.take_zero, List.drop_succ_cons, List.drop_zero, List.nil_append, List.cons_append, List.length_cons, List.length_nil, eqvs_dgs, c1, c2]

theorem k75f (b : Bool) (a1 a2 : Int) (nx ny : Nat) (lx ly : List Nat) : ∃ σ1, exI TT (FI.of Try.f75 (TT.an 75)) [.code (Try.f75.body.getD .skip)] (paramsE 0 [.agg [.bool b, .lst nx (dgs .i64 lx), .lst ny (dgs .i64 ly), .bool true, .int .i64 a1, .int .i64 a2]]) ⟨[], 0⟩ = some (.tup [.agg [.int .i64 a1, .int .i64 a2], .bool true], σ1) := by
  refine ex1 ?_
  rw [fi75]
  simp only [Try.f75, Option.getD]
  simp (maxSteps := 1000000) (disch := omega) [cellsAt, getCells, takeN, dropN, fieldAddrA, allOne, AV.one, n_push, storeCellsA, putN, overN, St.push, St.get, St.set, hget, hset, blt_dec, buildA, sizesOf, fillA, putCells, List.take_succ_cons, List.take_zero, List.drop_succ_cons, List.drop_zero, List.nil_append, List.cons_append, List.length_cons, List.length_nil, eqvs_dgs]
set_option maxHeartbeats 8000000 in
theorem k75 (b b' f' : Bool) (a1 a2 a3 a4 z1 z2 : Int) (nx ny nu nv : Nat) (lx ly lu lv : List Nat) (o1 o2 : Bool) (c1 : ∀ σ, callI TT 139 [.agg [.bool b, .lst nx (dgs .i64 lx), .lst ny (dgs .i64 ly), .bool false, .int .i64 a1, .int .i64 a2]] σ = some (.agg [.bool b', .lst nu (dgs .i64 lu), .lst nv (dgs .i64 lv), .bool f', .int .i64 a3, .int .i64 a4], σ)) (c2 : ∀ σ, callI TT 140 [.lst nu (dgs .i64 lu)] σ = some (.tup [.int .i64 z1, .bool o1], σ)) (c3 : ∀ σ, callI TT 140 [.lst nv (dgs .i64 lv)] σ = some (.tup [.int .i64 z2, .bool o2], σ)) (hw : o1 = true → wrapA .i64 (-z1) = -z1) :
    ∃ σ1, exI TT (FI.of Try.f75 (TT.an 75)) [.code (Try.f75.body.getD .skip)] (paramsE 0 [.agg [.bool b, .lst nx (dgs .i64 lx), .lst ny (dgs .i64 ly), .bool false, .int .i64 a1, .int .i64 a2]]) ⟨[], 0⟩ = some (if (o1 && o2) = true then .tup [.agg [.int .i64 (if b' = true then -z1 else z1), .int .i64 z2], .bool true] else .tup [.agg [.int .i64 0, .int .i64 0], .bool false], σ1) := by
  refine ex1 ?_
  rw [fi75]
  simp only [Try.f75, Option.getD]
  cases o1 with
  | false =>
    simp (maxSteps := 1000000) (disch := omega) [cellsAt, getCells, takeN, dropN, fieldAddrA, allOne, AV.one, n_push, storeCellsA, putN, overN, St.push, St.get, St.set, hget, hset, blt_dec, buildA, sizesOf, fillA, putCells, List.take_succ_cons, List.take_zero, List.drop_succ_cons, List.drop_zero, List.nil_append, List.cons_append, List.length_cons, List.length_nil, eqvs_dgs, c1, c2, c3]
  | true =>
    have hw := hw rfl
    cases o2 with
    | false =>
      simp (maxSteps := 1000000) (disch := omega) [cellsAt, getCells, takeN, dropN, fieldAddrA, allOne, AV.one, n_push, storeCellsA, putN, overN, St.push, St.get, St.set, hget, hset, blt_dec, buildA, sizesOf, fillA, putCells, List.take_succ_cons, List.take_zero, List.drop_succ_cons, List.drop_zero, List.nil_append, List.cons_append, List.length_cons, List.length_nil, eqvs_dgs, c1, c2, c3]
    | true =>
      cases b' <;>
        simp (maxSteps := 1000000) (disch := omega) [cellsAt, getCells, takeN, dropN, fieldAddrA, allOne, AV.one, n_push, storeCellsA, putN, overN, St.push, St.get, St.set, hget, hset, blt_dec, buildA, sizesOf, fillA, putCells, List.take_succ_cons, List.take_zero, List.drop_succ_cons, List.drop_zero, List.nil_append, List.cons_append, List.length_cons, List.length_nil, eqvs_dgs, c1, c2, c3, hw]

theorem len30 {k n : Nat} (h : n < 2 ^ k) (hk : k ≤ 250000000) : (dg 1073741824 n).length < 9000000 := by
  have h1 : n < 1073741824 ^ (k / 30 + 1) := by
    have e : (1073741824 : Nat) ^ (k / 30 + 1) = 2 ^ (30 * (k / 30 + 1)) := by rw [Nat.pow_mul]
    rw [e]
    exact Nat.lt_of_lt_of_le h (Nat.pow_le_pow_right (by decide) (by omega))
  have := dg_len_le (B := 1073741824) (by decide) h1
  omega
/-- A fraction of the reference: a valid one, or one of any size. -/
inductive Wd where
  | f (n d : Int)
  | w (b : Bool) (n d : Nat)
def Wd.neg : Wd → Bool
  | .f n _ => decide (n < 0)
  | .w b _ _ => b
def Wd.n : Wd → Nat
  | .f n _ => n.natAbs
  | .w _ n _ => n
def Wd.d : Wd → Nat
  | .f _ d => d.toNat
  | .w _ _ d => d
def Wd.fine : Wd → Bool
  | .f _ _ => true
  | .w _ _ _ => false
def Wd.fn : Wd → Int
  | .f n _ => n
  | .w _ _ _ => 0
def Wd.fd : Wd → Int
  | .f _ d => d
  | .w _ _ _ => 0
def WC (v : Wd) : List AV := [.bool v.neg, SB v.n, SB v.d, .bool v.fine, .int .i64 v.fn, .int .i64 v.fd]
def WA (v : Wd) : AV := .agg (WC v)
/-- Its value. -/
def Wd.q (v : Wd) : Rat := mkRat (sg v.neg v.n) v.d
def Wd.ok (k : Nat) : Wd → Prop
  | .f n d => vfr n d = true ∧ 60 ≤ k
  | .w _ n d => 0 < d ∧ n < 2 ^ k ∧ d < 2 ^ k
theorem Wd.q_f (n d : Int) : (Wd.f n d).q = mkRat n d.toNat := by
  show mkRat (sg (decide (n < 0)) n.natAbs) d.toNat = _
  rw [sg_of]
theorem Wd.ok.b {k : Nat} {v : Wd} (h : v.ok k) : 0 < v.d ∧ v.n < 2 ^ k ∧ v.d < 2 ^ k := by
  cases v with
  | w b n d => exact h
  | f n d =>
    obtain ⟨h1, h2⟩ := h
    obtain ⟨a1, a2, a3, a4⟩ := vfr_b h1
    have hp : (2 : Nat) ^ 60 ≤ 2 ^ k := Nat.pow_le_pow_right (by decide) h2
    have h60 : (1000000000000000000 : Nat) < 2 ^ 60 := by decide
    simp only [Wd.d, Wd.n]
    omega
theorem Wd.ok.mono {a b : Nat} {v : Wd} (h : v.ok a) (hab : a ≤ b) : v.ok b := by
  cases v with
  | f n d => exact ⟨h.1, Nat.le_trans h.2 hab⟩
  | w c n d => exact ⟨h.1, Nat.lt_of_lt_of_le h.2.1 (Nat.pow_le_pow_right (by decide) hab), Nat.lt_of_lt_of_le h.2.2 (Nat.pow_le_pow_right (by decide) hab)⟩
def wgen (v w : Wd) : Wd :=
  if v.neg = w.neg then .w v.neg (v.n * w.d + w.n * v.d) (v.d * w.d)
  else if v.n * w.d < w.n * v.d then .w w.neg (w.n * v.d - v.n * w.d) (v.d * w.d)
  else .w v.neg (v.n * w.d - w.n * v.d) (v.d * w.d)
def wadd : Wd → Wd → Wd
  | .f a b, .f c d => if fits (mkRat a b.toNat + mkRat c d.toNat) = true then .f (mkRat a b.toNat + mkRat c d.toNat).num (mkRat a b.toNat + mkRat c d.toNat).den else wgen (.f a b) (.f c d)
  | .f a b, .w c n d => wgen (.f a b) (.w c n d)
  | .w c n d, v => wgen (.w c n d) v
def wmgen (v w : Wd) : Wd := .w (v.neg != w.neg) (v.n * w.n) (v.d * w.d)
def wmul : Wd → Wd → Wd
  | .f a b, .f c d => if fits (mkRat a b.toNat * mkRat c d.toNat) = true then .f (mkRat a b.toNat * mkRat c d.toNat).num (mkRat a b.toNat * mkRat c d.toNat).den else wmgen (.f a b) (.f c d)
  | .f a b, .w c n d => wmgen (.f a b) (.w c n d)
  | .w c n d, v => wmgen (.w c n d) v
def wlow : Wd → Wd
  | .f a b => .f a b
  | .w c n d => .w c (n / Nat.gcd n d) (d / Nat.gcd n d)
theorem wgen_q {k j : Nat} {v w : Wd} (hv : v.ok k) (hw : w.ok j) : (wgen v w).q = v.q + w.q ∧ (wgen v w).ok (k + j + 1) := by
  obtain ⟨v1, v2, v3⟩ := hv.b
  obtain ⟨w1, w2, w3⟩ := hw.b
  have e1 := mul_bd v2 w3
  have e2 := mul_bd w2 v3
  have e3 := mul_bd v3 w3
  rw [Nat.add_comm j k] at e2
  have e4 : 2 ^ (k + j + 1) = 2 * 2 ^ (k + j) := by rw [Nat.pow_succ, Nat.mul_comm]
  have hp := Nat.mul_pos v1 w1
  have hs : ∀ (b : Bool) (n d : Nat), sg b n * (d : Int) = sg b (n * d) := fun b n d => by
    have := sg_mul b false n d
    rw [show sg false d = (d : Int) from rfl] at this
    rw [this]; cases b <;> rfl
  have hq : v.q + w.q = mkRat (sg v.neg (v.n * w.d) + sg w.neg (w.n * v.d)) (v.d * w.d) := by
    rw [Wd.q, Wd.q, Rat.mkRat_add_mkRat _ _ (by omega) (by omega), hs, hs]
  rw [hq]
  unfold wgen
  by_cases h : v.neg = w.neg
  · rw [if_pos h]
    refine ⟨?_, hp, by omega, by omega⟩
    show mkRat (sg v.neg _) _ = _
    rw [← h, sg_add_same]; rfl
  · rw [if_neg h]
    by_cases hl : v.n * w.d < w.n * v.d
    · rw [if_pos hl]
      refine ⟨?_, hp, by omega, by omega⟩
      rw [sg_add_lt h hl]; rfl
    · rw [if_neg hl]
      refine ⟨?_, hp, by omega, by omega⟩
      rw [sg_add_ge h (by omega)]; rfl
theorem f_of {q : Rat} (h : fits q = true) : (Wd.f q.num q.den).q = q ∧ ∀ k, 60 ≤ k → (Wd.f q.num q.den).ok k := by
  refine ⟨?_, fun k hk => ⟨vfr_of h, hk⟩⟩
  rw [Wd.q_f, Int.toNat_natCast, Rat.mkRat_self]
theorem wadd_q {k j : Nat} {v w : Wd} (hv : v.ok k) (hw : w.ok j) : (wadd v w).q = v.q + w.q ∧ (wadd v w).ok (k + j + 1) := by
  have hg := wgen_q hv hw
  cases v with
  | w c n d => exact hg
  | f a b => cases w with
    | w c n d => exact hg
    | f c d =>
      simp only [wadd]
      split
      · rename_i hf
        obtain ⟨h1, h2⟩ := f_of hf
        exact ⟨by rw [h1, Wd.q_f, Wd.q_f], h2 _ (by have := hv.2; omega)⟩
      · exact hg
theorem wmgen_q {k j : Nat} {v w : Wd} (hv : v.ok k) (hw : w.ok j) : (wmgen v w).q = v.q * w.q ∧ (wmgen v w).ok (k + j) := by
  obtain ⟨v1, v2, v3⟩ := hv.b
  obtain ⟨w1, w2, w3⟩ := hw.b
  refine ⟨?_, Nat.mul_pos v1 w1, mul_bd v2 w2, mul_bd v3 w3⟩
  have e : v.q * w.q = mkRat (sg v.neg v.n * sg w.neg w.n) (v.d * w.d) := by
    rw [Wd.q, Wd.q, Rat.mkRat_mul_mkRat]
  rw [e, sg_mul]
  rfl
theorem wmul_q {k j : Nat} {v w : Wd} (hv : v.ok k) (hw : w.ok j) : (wmul v w).q = v.q * w.q ∧ (wmul v w).ok (k + j) := by
  have hg := wmgen_q hv hw
  cases v with
  | w c n d => exact hg
  | f a b => cases w with
    | w c n d => exact hg
    | f c d =>
      simp only [wmul]
      split
      · rename_i hf
        obtain ⟨h1, h2⟩ := f_of hf
        exact ⟨by rw [h1, Wd.q_f, Wd.q_f], h2 _ (by have := hv.2; omega)⟩
      · exact hg
theorem wlow_q {k : Nat} {v : Wd} (hv : v.ok k) : (wlow v).q = v.q ∧ (wlow v).ok k := by
  cases v with
  | f a b => exact ⟨rfl, hv⟩
  | w c n d =>
    obtain ⟨h1, h2, h3⟩ := hv
    have hg : 0 < Nat.gcd n d := Nat.gcd_pos_of_pos_right n h1
    have hd : d / Nat.gcd n d * Nat.gcd n d = d := Nat.div_mul_cancel (Nat.gcd_dvd_right _ _)
    have hn : n / Nat.gcd n d * Nat.gcd n d = n := Nat.div_mul_cancel (Nat.gcd_dvd_left _ _)
    refine ⟨?_, Nat.pos_of_ne_zero fun h => by rw [h, Nat.zero_mul] at hd; omega, Nat.lt_of_le_of_lt (Nat.div_le_self _ _) h2, Nat.lt_of_le_of_lt (Nat.div_le_self _ _) h3⟩
    show mkRat (sg c (n / Nat.gcd n d)) (d / Nat.gcd n d) = mkRat (sg c n) d
    rw [← Rat.mkRat_mul_right (n := sg c (n / Nat.gcd n d)) (a := Nat.gcd n d) (by omega), hd]
    congr 1
    have := sg_mul c false (n / Nat.gcd n d) (Nat.gcd n d)
    rw [show sg false (Nat.gcd n d) = ((Nat.gcd n d : Nat) : Int) from rfl, hn] at this
    rw [this]; cases c <;> rfl
/-! ### Contracts -/
theorem r82 {n d : Int} (h : vfr n d = true) : FnF TT 82 [.agg [.int .i64 n, .int .i64 d]] (WA (.f n d)) := by
  obtain ⟨a1, a2, a3, a4⟩ := vfr_b h
  have hd : d = ((d.toNat : Nat) : Int) := by omega
  exact FnF.mkv fn82 rfl md82 (k82 n d n.natAbs _ _ _ _ _ (ileb_neg n) (wrapA_id (by omega) (by omega)) (fun σ => v134a n σ _ rfl) (fun σ => (v145 n.natAbs (by omega)).pure σ rfl rfl) (fun σ => by
    have := (v145 d.toNat (by omega)).pure σ rfl rfl
    rw [← hd] at this; exact this)) (fun _ => rfl)
theorem frA_t {q : Rat} (h : fits q = true) : frA q = .tup [.agg [.int .i64 q.num, .int .i64 q.den], .bool true] := by rw [frA, if_pos h]
theorem frA_f {q : Rat} (h : ¬ fits q = true) : frA q = .tup [.agg [.int .i64 0, .int .i64 0], .bool false] := by rw [frA, if_neg h]
theorem g141 {k : Nat} {v w : Wd} (hv : v.ok k) (hw : w.ok k) (hk : k ≤ 100000000) (hf : v.fine = true → w.fine = true → ∀ σ, callI TT 103 [.agg [.int .i64 v.fn, .int .i64 v.fd], .agg [.int .i64 w.fn, .int .i64 w.fd]] σ = some (.tup [.agg [.int .i64 0, .int .i64 0], .bool false], σ)) : FnF TT 141 [WA v, WA w] (WA (wgen v w)) := by
  obtain ⟨v1, v2, v3⟩ := hv.b
  obtain ⟨w1, w2, w3⟩ := hw.b
  have l1 := len30 v2 (by omega)
  have l2 := len30 v3 (by omega)
  have l3 := len30 w2 (by omega)
  have l4 := len30 w3 (by omega)
  have L1 := len30 (mul_bd v2 w3) (by omega)
  have L2 := len30 (mul_bd w2 v3) (by omega)
  have c1 := fun σ : St => (v144 v.n w.d (by omega) (by omega)).pure σ rfl rfl
  have c2 := fun σ : St => (v144 w.n v.d (by omega) (by omega)).pure σ rfl rfl
  have c3 := fun σ : St => (v144 v.d w.d (by omega) (by omega)).pure σ rfl rfl
  unfold wgen
  by_cases h : v.neg = w.neg
  · rw [if_pos h]
    exact FnF.mkv fn141 rfl md141 (k141s v.fine w.fine v.neg w.neg v.fn v.fd w.fn w.fd _ _ _ _ _ _ _ _ _ _ _ _ _ _ _ _ hf c1 c2 c3 h (fun σ => (v179 (v.n * w.d) (w.n * v.d) (by omega) (by omega)).pure σ rfl rfl)) (fun _ => rfl)
  · rw [if_neg h]
    have c5 := fun σ : St => v178 (v.n * w.d) (w.n * v.d) (by omega) (by omega) σ [SB (v.n * w.d), SB (w.n * v.d)] rfl
    by_cases hl : v.n * w.d < w.n * v.d
    · rw [if_pos hl]
      exact FnF.mkv fn141 rfl md141 (k141l v.fine w.fine v.neg w.neg v.fn v.fd w.fn w.fd _ _ _ _ _ _ _ _ _ _ _ _ _ _ _ _ _ hf c1 c2 c3 h c5 (by unfold cmpN; rw [if_pos hl]; decide) (fun σ => (v180 (w.n * v.d) (v.n * w.d) (by omega) (by omega)).pure σ rfl rfl)) (fun _ => rfl)
    · rw [if_neg hl]
      exact FnF.mkv fn141 rfl md141 (k141g v.fine w.fine v.neg w.neg v.fn v.fd w.fn w.fd _ _ _ _ _ _ _ _ _ _ _ _ _ _ _ _ _ hf c1 c2 c3 h c5 (by unfold cmpN; rw [if_neg hl]; split <;> decide) (fun σ => (v180 (v.n * w.d) (w.n * v.d) (by omega) (by omega)).pure σ rfl rfl)) (fun _ => rfl)
theorem r141 {k : Nat} {v w : Wd} (hv : v.ok k) (hw : w.ok k) (hk : k ≤ 100000000) : FnF TT 141 [WA v, WA w] (WA (wadd v w)) := by
  cases v with
  | w c n d => exact g141 hv hw hk (fun h => by cases h)
  | f a b => cases w with
    | w c n d => exact g141 hv hw hk (fun _ h => by cases h)
    | f c d =>
      have h1 := v103 hv.1 hw.1
      simp only [wadd]
      by_cases hf : fits (mkRat a b.toNat + mkRat c d.toNat) = true
      · rw [if_pos hf]
        rw [frA_t hf] at h1
        have h2 := r82 (vfr_of hf)
        exact FnF.mkv fn141 rfl md141 (k141f _ _ _ a b c d _ _ _ _ _ _ _ _ _ _ _ _ _ _ _ _ (fun σ => h1 σ _ rfl) (fun σ => h2.pure σ rfl rfl)) (fun _ => rfl)
      · rw [if_neg hf]
        rw [frA_f hf] at h1
        exact g141 hv hw hk (fun _ _ σ => h1 σ _ rfl)
theorem g81 {k : Nat} {v w : Wd} (hv : v.ok k) (hw : w.ok k) (hk : k ≤ 100000000) (hf : v.fine = true → w.fine = true → ∀ σ, callI TT 105 [.agg [.int .i64 v.fn, .int .i64 v.fd], .agg [.int .i64 w.fn, .int .i64 w.fd]] σ = some (.tup [.agg [.int .i64 0, .int .i64 0], .bool false], σ)) : FnF TT 81 [WA v, WA w] (WA (wmgen v w)) := by
  obtain ⟨v1, v2, v3⟩ := hv.b
  obtain ⟨w1, w2, w3⟩ := hw.b
  have l1 := len30 v2 (by omega)
  have l2 := len30 v3 (by omega)
  have l3 := len30 w2 (by omega)
  have l4 := len30 w3 (by omega)
  exact FnF.mkv fn81 rfl md81 (k81 v.fine w.fine v.neg w.neg v.fn v.fd w.fn w.fd _ _ _ _ _ _ _ _ _ _ _ _ hf (fun σ => (v144 v.n w.n (by omega) (by omega)).pure σ rfl rfl) (fun σ => (v144 v.d w.d (by omega) (by omega)).pure σ rfl rfl)) (fun _ => rfl)
theorem r81 {k : Nat} {v w : Wd} (hv : v.ok k) (hw : w.ok k) (hk : k ≤ 100000000) : FnF TT 81 [WA v, WA w] (WA (wmul v w)) := by
  cases v with
  | w c n d => exact g81 hv hw hk (fun h => by cases h)
  | f a b => cases w with
    | w c n d => exact g81 hv hw hk (fun _ h => by cases h)
    | f c d =>
      have h1 := v105 hv.1 hw.1
      simp only [wmul]
      by_cases hf : fits (mkRat a b.toNat * mkRat c d.toNat) = true
      · rw [if_pos hf]
        rw [frA_t hf] at h1
        have h2 := r82 (vfr_of hf)
        exact FnF.mkv fn81 rfl md81 (k81f _ _ _ a b c d _ _ _ _ _ _ _ _ _ _ _ _ _ _ _ _ (fun σ => h1 σ _ rfl) (fun σ => h2.pure σ rfl rfl)) (fun _ => rfl)
      · rw [if_neg hf]
        rw [frA_f hf] at h1
        exact g81 hv hw hk (fun _ _ σ => h1 σ _ rfl)
theorem l139 (p1 p2 : AV) (σ : St) : ∀ (b a : Nat), (dg 1073741824 a).length < 9000000 → (dg 1073741824 b).length < 9000000 → exI TT (FI.of Try.f139 (TT.an 139)) K139_0 [(1, p1), (2, p2), (3, SB a), (4, SB b)] σ = exI TT (FI.of Try.f139 (TT.an 139)) K139_0 [(1, p1), (2, p2), (3, SB (Nat.gcd a b)), (4, .lst 0 (dgs .i64 []))] σ := by
  intro b
  induction b using Nat.strongRecOn with
  | ind b ih =>
    intro a ha hb
    rcases Nat.eq_zero_or_pos b with rfl | hpos
    · rw [Nat.gcd_zero_right]; rfl
    · have hl : (dg 1073741824 (a % b)).length < 9000000 := Nat.lt_of_le_of_lt (dg_mono (by decide) (Nat.le_of_lt (Nat.mod_lt _ hpos))) hb
      have h := ih (a % b) (Nat.mod_lt _ hpos) b hb hl
      rw [gcd_step a b hpos, ← h]
      exact k139s p1 p2 _ _ _ _ _ _ (SB (a / b)) σ ((dg_len_pos (by decide)).2 hpos) (fun σ => (v177 a b hpos (by omega) (by omega)).pure σ rfl rfl)
theorem r139 {k : Nat} {v : Wd} (hv : v.ok k) (hk : k ≤ 250000000) : FnF TT 139 [WA v] (WA (wlow v)) := by
  cases v with
  | f a b => exact FnF.mkv (c := b139) fn139 rfl md139 (k139f _ _ _ _ _ _ _) (fun _ => rfl)
  | w c n d =>
    obtain ⟨h1, h2, h3⟩ := hv
    have l1 := len30 h2 hk
    have l2 := len30 h3 hk
    have hg : 0 < Nat.gcd n d := Nat.gcd_pos_of_pos_right n h1
    have hgd : Nat.gcd n d ≤ d := Nat.le_of_dvd h1 (Nat.gcd_dvd_right n d)
    have lg : (dg 1073741824 (Nat.gcd n d)).length < 9000000 := Nat.lt_of_le_of_lt (dg_mono (by decide) hgd) l2
    obtain ⟨σ1, he⟩ := k139e c 0 0 _ _ _ _ _ _ _ _ _ _ _ _ (fun σ => (v177 n (Nat.gcd n d) hg (by omega) (by omega)).pure σ rfl rfl) (fun σ => (v177 d (Nat.gcd n d) hg (by omega) (by omega)).pure σ rfl rfl)
    refine FnF.mkv (c := b139) fn139 rfl md139 ⟨σ1, ?_⟩ (fun _ => rfl)
    refine (k139b c 0 0 _ _ _ _).trans ?_
    exact (l139 _ _ _ d n l1 l2).trans he
theorem r75 {k : Nat} {v : Wd} (hv : v.ok k) (hk : k ≤ 250000000) : FnV TT 75 [WA v] (frA v.q) := by
  cases v with
  | f a b =>
    obtain ⟨p1, p2, p3⟩ := vfr_rat hv.1
    have e : frA (Wd.f a b).q = .tup [.agg [.int .i64 a, .int .i64 b], .bool true] := by rw [Wd.q_f, frA_t p3, p1, p2]
    rw [e]
    exact FnV.mk fn75 rfl md75 (k75f _ _ _ _ _ _ _) (fun _ => rfl) rfl
  | w c n d =>
    have hlow := r139 hv hk
    obtain ⟨h1, h2, h3⟩ := hv
    obtain ⟨e1, e2, e3⟩ := low_num c n d (by omega)
    have l1 : (dg 1073741824 (n / Nat.gcd n d)).length < 9000000 := Nat.lt_of_le_of_lt (dg_mono (by decide) (Nat.div_le_self _ _)) (len30 h2 hk)
    have l2 : (dg 1073741824 (d / Nat.gcd n d)).length < 9000000 := Nat.lt_of_le_of_lt (dg_mono (by decide) (Nat.div_le_self _ _)) (len30 h3 hk)
    have s1 := v140 (n / Nat.gcd n d) (by omega)
    have s2 := v140 (d / Nat.gcd n d) (by omega)
    have hq : (Wd.w c n d).q = mkRat (sg c n) d := rfl
    rw [hq]
    have hif : ∀ x : Nat, (if x ≤ 1000000000000000000 then AV.tup [.int .i64 x, .bool true] else .tup [.int .i64 0, .bool false]) = .tup [.int .i64 (if x ≤ 1000000000000000000 then (x : Int) else 0), .bool (decide (x ≤ 1000000000000000000))] := fun x => by
      split
      · rename_i h; rw [decide_eq_true h]
      · rename_i h; rw [decide_eq_false h]
    rw [hif] at s1 s2
    have hk2 := k75 c c false 0 0 0 0 _ _ _ _ _ _ _ _ _ _ _ _ (fun σ => hlow.pure σ rfl rfl) (fun σ => s1 σ _ rfl) (fun σ => s2 σ _ rfl) (fun h => by rw [if_pos (of_decide_eq_true h)]; have := of_decide_eq_true h; exact wrapA_id (by omega) (by omega))
    have e : (if (decide (n / Nat.gcd n d ≤ 1000000000000000000) && decide (d / Nat.gcd n d ≤ 1000000000000000000)) = true then AV.tup [.agg [.int .i64 (if c = true then -(if n / Nat.gcd n d ≤ 1000000000000000000 then ((n / Nat.gcd n d : Nat) : Int) else 0) else (if n / Nat.gcd n d ≤ 1000000000000000000 then ((n / Nat.gcd n d : Nat) : Int) else 0)), .int .i64 (if d / Nat.gcd n d ≤ 1000000000000000000 then ((d / Nat.gcd n d : Nat) : Int) else 0)], .bool true] else .tup [.agg [.int .i64 0, .int .i64 0], .bool false]) = frA (mkRat (sg c n) d) := by
      by_cases hf : fits (mkRat (sg c n) d) = true
      · obtain ⟨f1, f2⟩ := fits_iff.1 hf
        rw [nm, e1] at f1
        rw [e2] at f2
        rw [frA_t hf, if_pos (by simp [f1, f2]), if_pos f1, if_pos f2, e3, e2]
        rfl
      · have hn : ¬ (decide (n / Nat.gcd n d ≤ 1000000000000000000) && decide (d / Nat.gcd n d ≤ 1000000000000000000)) = true := by
          intro hh
          simp only [Bool.and_eq_true, decide_eq_true_eq] at hh
          exact hf (fits_iff.2 ⟨by rw [nm, e1]; exact hh.1, by rw [e2]; exact hh.2⟩)
        rw [frA_f hf, if_neg hn]
    rw [e] at hk2
    exact FnV.mk fn75 rfl md75 hk2 (fun σ => by unfold frA; split <;> rfl) (by unfold frA; split <;> rfl)
/-! ### Sums -/
def wsum (ws : List Wd) : Wd := ws.foldl (fun s w => wlow (wadd s w)) (.f 0 1)
theorem wsum_g {k : Nat} : ∀ (ws : List Wd) (s : Wd) (a : Nat), s.ok a → (∀ w ∈ ws, w.ok k) → (ws.foldl (fun s w => wlow (wadd s w)) s).q = ws.foldl (fun (x : Rat) w => x + w.q) s.q ∧ (ws.foldl (fun s w => wlow (wadd s w)) s).ok (a + ws.length * (k + 1)) := by
  intro ws
  induction ws with
  | nil => intro s a hs _; exact ⟨rfl, by simpa using hs⟩
  | cons w r ih =>
    intro s a hs hw
    obtain ⟨q1, o1⟩ := wadd_q hs (hw w (by simp))
    obtain ⟨q2, o2⟩ := wlow_q o1
    obtain ⟨q3, o3⟩ := ih (wlow (wadd s w)) _ o2 (fun x hx => hw x (by simp [hx]))
    refine ⟨by rw [List.foldl_cons, q3, List.foldl_cons, q2, q1], o3.mono ?_⟩
    rw [List.length_cons, Nat.add_mul]; omega
theorem zero_ok : (Wd.f 0 1).ok 60 := ⟨by decide, Nat.le_refl _⟩
theorem zero_q : (Wd.f 0 1).q = 0 := by rw [Wd.q_f]; rfl
theorem wsum_q {k : Nat} {ws : List Wd} (hw : ∀ w ∈ ws, w.ok k) : (wsum ws).q = ws.foldl (fun (x : Rat) w => x + w.q) 0 ∧ (wsum ws).ok (60 + ws.length * (k + 1)) := by
  have := wsum_g ws (.f 0 1) 60 zero_ok hw
  rw [zero_q] at this
  exact this
theorem WC_len (v : Wd) : (WC v).length = 6 := rfl
theorem WC_one (v : Wd) : allOne (WC v) = true := rfl
theorem WC_frz (σ : St) (d : Nat) (v : Wd) : mapO (frzV σ (d + 1)) (WC v) = some (WC v) := rfl
/-- A box with some cells. -/
def Bx (σ : St) (b : Nat) (vs : List AV) : Prop := (∃ n, σ.get b = some ⟨vs, n, false⟩) ∧ b < σ.n
theorem Bx.rd {σ : St} {b n : Nat} {vs : List AV} (h : Bx σ b vs) (hn : vs.length = n) : cellsAt σ (.ptr b 0) n = some vs := by
  obtain ⟨⟨m, h⟩, _⟩ := h
  simp only [cellsAt, h, getCells_eq]
  rw [if_pos (by omega), List.drop_zero, List.take_of_length_le (by omega)]
theorem Bx.st {σ : St} {b : Nat} {vs ws : List AV} (h : Bx σ b vs) (hl : ws.length = vs.length) (ho : allOne ws = true) : ∃ σ', storeCellsA σ b 0 ws = some σ' ∧ Bx σ' b ws ∧ But b σ σ' := by
  obtain ⟨⟨m, hg⟩, hlt⟩ := h
  refine ⟨σ.set b ⟨ws, m, false⟩, ?_, ⟨⟨m, get_set_eq hg⟩, hlt⟩, rfl, fun c hc => get_set_ne (fun e => hc e.symm)⟩
  rw [storeCellsA_eq, hg]
  simp only [putCells]
  rw [if_pos ⟨by omega, ho⟩, List.take_zero, List.nil_append, Nat.zero_add, List.drop_of_length_le (by omega), List.append_nil]
theorem Bx.old {σ σ' : St} {b : Nat} {vs : List AV} (h : Bx σ b vs) (k : Old σ σ') : Bx σ' b vs := by
  obtain ⟨⟨m, hg⟩, hlt⟩ := h
  exact ⟨⟨m, by rw [k.2 b hlt]; exact hg⟩, Nat.lt_of_lt_of_le hlt k.1⟩
theorem Bx.but {σ σ' : St} {b c : Nat} {vs : List AV} (h : Bx σ c vs) (hc : c ≠ b) (k : But b σ σ') : Bx σ' c vs := by
  obtain ⟨⟨m, hg⟩, hlt⟩ := h
  exact ⟨⟨m, by rw [k.2 c hc]; exact hg⟩, by rw [k.1]; exact hlt⟩
theorem Bx.push {σ : St} {vs : List AV} {m : Nat} : Bx (σ.push ⟨vs, m, false⟩) σ.n vs := ⟨⟨m, get_push_same⟩, Nat.lt_succ_self _⟩
theorem Bx.lt {σ : St} {b : Nat} {vs : List AV} (h : Bx σ b vs) : b < σ.n := h.2
/-- Rows of aggregates. -/
def flat {α : Type} (f : α → List AV) (l : List α) : List AV := l.flatMap f
theorem flat_len {α : Type} {f : α → List AV} {w : Nat} (hf : ∀ x, (f x).length = w) : ∀ l : List α, (flat f l).length = l.length * w
  | [] => by simp [flat]
  | x :: r => by
    have := flat_len hf r
    simp only [flat, List.flatMap_cons, List.length_append, List.length_cons] at this ⊢
    rw [this, hf, Nat.add_mul]; omega
theorem flat_get {α : Type} {f : α → List AV} {w : Nat} (hf : ∀ x, (f x).length = w) : ∀ (l : List α) (i : Nat) (x : α), l[i]? = some x → getCells (flat f l) (i * w) w = some (f x)
  | [], i, x, h => by simp at h
  | y :: r, 0, x, h => by
    simp at h; subst h
    rw [getCells_eq, flat, List.flatMap_cons, if_pos (by simp [hf]), Nat.zero_mul, List.drop_zero, List.take_left' (hf y)]
  | y :: r, i + 1, x, h => by
    have ih := flat_get hf r i x (by simpa using h)
    rw [getCells_eq] at ih ⊢
    split at ih
    · rename_i hl
      have e : (i + 1) * w = (f y).length + i * w := by rw [hf, Nat.add_mul]; omega
      simp only [flat, List.flatMap_cons, List.length_append] at hl ⊢
      rw [if_pos (by rw [e]; omega), e, ← List.drop_drop, List.drop_left]
      exact ih
    · cases ih
theorem flat_one {α : Type} {f : α → List AV} (hf : ∀ x, allOne (f x) = true) : ∀ l : List α, allOne (flat f l) = true
  | [] => rfl
  | x :: r => by
    have h2 := flat_one hf r
    have : ∀ (a b : List AV), allOne a = true → allOne b = true → allOne (a ++ b) = true := by
      intro a; induction a with
      | nil => intro b _ h; exact h
      | cons y t ih => intro b h1 h2; simp only [allOne, Bool.and_eq_true, List.cons_append] at h1 ⊢; exact ⟨h1.1, ih b h1.2 h2⟩
    exact this _ _ (hf x) h2
theorem mapO_app {α β : Type} {f : α → Option β} : ∀ {a : List α} {b : List α} {x y : List β}, mapO f a = some x → mapO f b = some y → mapO f (a ++ b) = some (x ++ y)
  | [], b, x, y, h1, h2 => by simp only [mapO] at h1; cases h1; exact h2
  | z :: r, b, x, y, h1, h2 => by
    simp only [mapO] at h1
    split at h1
    · rename_i u v hu hv
      cases h1
      exact mapO_cons hu (mapO_app hv h2)
    · cases h1
theorem flat_frz {α : Type} {f : α → List AV} {σ : St} {d : Nat} (hf : ∀ x, mapO (frzV σ d) (f x) = some (f x)) : ∀ l : List α, mapO (frzV σ d) (flat f l) = some (flat f l)
  | [] => rfl
  | x :: r => mapO_app (hf x) (flat_frz hf r)
theorem flat_app {α : Type} (f : α → List AV) (a b : List α) : flat f (a ++ b) = flat f a ++ flat f b := by simp [flat]
def WS (ws : List Wd) : AV := .lst ws.length (flat WC ws)

noncomputable def b83 : Code := Try.f83.body.getD .skip
noncomputable def B83_0 : Code := (bodyC (bodyC (sndC (fstC (sndC (sndC b83))))))
noncomputable def K83_0 : List It := .lp B83_0 :: .blk 0 :: .code (sndC (sndC (sndC b83))) :: []
theorem xl83_0 {fi : FI} {env : Env} {σ : St} : exI TT fi K83_0 env σ = exI TT fi (.code B83_0 :: K83_0) env σ := by unfold K83_0; exact xI_lp
noncomputable def R83_0_0 : List It := .code (sndC (sndC (sndC b83))) :: []
theorem eK83_0_0 : exitA 0 K83_0 = some R83_0_0 := rfl
theorem s83 (n i : Nat) (cells s w t u : List AV) (σ σ1 : St) (hi : i < n) (l1 : cellsAt σ (.ptr 1 0) 6 = some s) (r1 : cellsAt σ (.lp cells (i * 6)) 6 = some w) (c1 : callI TT 141 [.agg s, .agg w] σ = some (.agg t, σ)) (c2 : callI TT 139 [.agg t] σ = some (.agg u, σ)) (hu : u.length = 6) (s1 : storeCellsA σ 1 0 u = some σ1) (hw : wrapA .i64 ((i : Int) + 1) = (i : Int) + 1) :
    exI TT (FI.of Try.f83 (TT.an 83)) K83_0 [(0, .lst n cells), (2, .ptr 0 0), (3, .ptr 1 0), (4, .int .i64 i)] σ = exI TT (FI.of Try.f83 (TT.an 83)) K83_0 [(0, .lst n cells), (2, .ptr 0 0), (3, .ptr 1 0), (4, .int .i64 ((i : Int) + 1))] σ1 := by
  rw [fi83]
  conv => lhs; rw [xl83_0]
  simp only [B83_0, b83, Try.f83, Option.getD, fstC, sndC, bodyC, thnC, elsC]
  simp (maxSteps := 1000000) (disch := omega) [eK83_0_0, l1, r1, c1, c2, hu, s1, hw]
theorem e83 (n : Nat) (cells s : List AV) (σ σ1 : St) (l1 : cellsAt σ (.ptr 1 0) 6 = some s) (hs : s.length = 6) (s1 : storeCellsA σ 0 0 s = some σ1) (l2 : cellsAt σ1 (.ptr 0 0) 6 = some s) :
    exI TT (FI.of Try.f83 (TT.an 83)) K83_0 [(0, .lst n cells), (2, .ptr 0 0), (3, .ptr 1 0), (4, .int .i64 n)] σ = some (.agg s, σ1) := by
  rw [fi83, xl83_0]
  simp only [B83_0, b83, Try.f83, Option.getD, fstC, sndC, bodyC, thnC, elsC]
  simp (maxSteps := 1000000) (disch := omega) [eK83_0_0]
  simp only [R83_0_0, b83, Try.f83, Option.getD, fstC, sndC, bodyC, thnC, elsC]
  simp (maxSteps := 1000000) (disch := omega) [eK83_0_0, l1, hs, s1, l2]
theorem b83e (n : Nat) (cells z : List AV) (σ1 σ2 σ3 : St) (hz : z.length = 6) (h1 : (⟨[], 0⟩ : St).push ⟨[.bool false, .nilS, .nilS, .bool false, .int .i64 0, .int .i64 0], 6, false⟩ = σ1) (hn : σ1.n = 1) (c1 : callI TT 87 [] σ1 = some (.agg [.int .i64 0, .int .i64 1], σ1)) (c2 : callI TT 82 [.agg [.int .i64 0, .int .i64 1]] σ1 = some (.agg z, σ1)) (h2 : σ1.push ⟨[.bool false, .nilS, .nilS, .bool false, .int .i64 0, .int .i64 0], 6, false⟩ = σ2) (s1 : storeCellsA σ2 1 0 z = some σ3) :
    exI TT (FI.of Try.f83 (TT.an 83)) [.code b83] (paramsE 0 [.lst n cells]) ⟨[], 0⟩ = exI TT (FI.of Try.f83 (TT.an 83)) K83_0 [(0, .lst n cells), (2, .ptr 0 0), (3, .ptr 1 0), (4, .int .i64 0)] σ3 := by
  rw [fi83]
  simp only [b83, Try.f83, Option.getD, fstC, sndC, bodyC, thnC, elsC]
  simp (maxSteps := 1000000) (disch := omega) [eK83_0_0, h1, hn, c1, c2, h2, hz, s1]
  rfl
theorem l83 (ws : List Wd) {k : Nat} (hw : ∀ w ∈ ws, w.ok k) (hk : 60 + ws.length * (k + 1) + k ≤ 90000000) : ∀ (m i : Nat) (s : Wd) (σ : St), i + m = ws.length → s.ok (60 + i * (k + 1)) → Bx σ 1 (WC s) → (∃ z, Bx σ 0 z ∧ z.length = 6) →
    ∃ σ', exI TT (FI.of Try.f83 (TT.an 83)) K83_0 [(0, WS ws), (2, .ptr 0 0), (3, .ptr 1 0), (4, .int .i64 i)] σ = some (WA ((ws.drop i).foldl (fun s w => wlow (wadd s w)) s), σ') := by
  intro m
  induction m with
  | zero =>
    intro i s σ hi hs hb hz
    obtain rfl : i = ws.length := by omega
    obtain ⟨z, hz, hzl⟩ := hz
    obtain ⟨σ1, a1, a2, a3⟩ := hz.st (ws := WC s) (by rw [hzl]; rfl) (WC_one s)
    rw [List.drop_of_length_le (Nat.le_refl _)]
    exact ⟨σ1, e83 ws.length (flat WC ws) (WC s) σ σ1 (hb.rd rfl) rfl a1 (a2.rd rfl)⟩
  | succ m ih =>
    intro i s σ hi hs hb hz
    have hil : i < ws.length := by omega
    have hwi := hw _ (List.getElem_mem hil)
    have hmul : i * (k + 1) + (k + 1) ≤ ws.length * (k + 1) := by
      have := Nat.mul_le_mul_right (k + 1) (show i + 1 ≤ ws.length from hil)
      rw [Nat.add_mul, Nat.one_mul] at this; exact this
    have hll : ws.length ≤ ws.length * (k + 1) := Nat.le_mul_of_pos_right _ (by omega)
    have hm1 : s.ok (60 + i * (k + 1) + k) := hs.mono (Nat.le_add_right _ _)
    have hm2 : (ws[i]).ok (60 + i * (k + 1) + k) := hwi.mono (Nat.le_add_left _ _)
    have ca := r141 hm1 hm2 (by omega)
    obtain ⟨q1, o1⟩ := wadd_q hs hwi
    have cl := r139 o1 (by omega)
    obtain ⟨q2, o2⟩ := wlow_q o1
    obtain ⟨σ1, a1, a2, a3⟩ := hb.st (ws := WC (wlow (wadd s ws[i]))) rfl (WC_one _)
    obtain ⟨z, hz, hzl⟩ := hz
    obtain ⟨σ', k1⟩ := ih (i + 1) (wlow (wadd s ws[i])) σ1 (by omega) (o2.mono (by rw [Nat.add_mul]; omega)) a2 ⟨z, hz.but (by decide) a3, hzl⟩
    rw [List.drop_eq_getElem_cons hil, List.foldl_cons]
    refine ⟨σ', ?_⟩
    rw [← k1]
    have hi1 : ((i + 1 : Nat) : Int) = (i : Int) + 1 := by omega
    rw [hi1]
    have r1 : cellsAt σ (.lp (flat WC ws) (i * 6)) 6 = some (WC ws[i]) := flat_get WC_len ws i _ (List.getElem?_eq_getElem hil)
    exact s83 ws.length i (flat WC ws) (WC s) (WC ws[i]) (WC (wadd s ws[i])) (WC (wlow (wadd s ws[i]))) σ σ1 hil (hb.rd rfl) r1 (ca.pure σ rfl rfl) (cl.pure σ rfl rfl) rfl a1 (wrapA_id (by omega) (by omega))
theorem r83 (ws : List Wd) {k : Nat} (hw : ∀ w ∈ ws, w.ok k) (hk : 60 + ws.length * (k + 1) + k ≤ 90000000) : FnF TT 83 [WS ws] (WA (wsum ws)) := by
  have cz := fun σ : St => v87 σ [] rfl
  have co := fun σ : St => (r82 (n := 0) (d := 1) (by decide)).pure σ rfl rfl
  have hb1 : Bx (((⟨[], 0⟩ : St).push ⟨[.bool false, .nilS, .nilS, .bool false, .int .i64 0, .int .i64 0], 6, false⟩).push ⟨[.bool false, .nilS, .nilS, .bool false, .int .i64 0, .int .i64 0], 6, false⟩) 1 [.bool false, .nilS, .nilS, .bool false, .int .i64 0, .int .i64 0] := Bx.push
  have hb0 : Bx (((⟨[], 0⟩ : St).push ⟨[.bool false, .nilS, .nilS, .bool false, .int .i64 0, .int .i64 0], 6, false⟩).push ⟨[.bool false, .nilS, .nilS, .bool false, .int .i64 0, .int .i64 0], 6, false⟩) 0 [.bool false, .nilS, .nilS, .bool false, .int .i64 0, .int .i64 0] := Bx.push.old Old.push
  obtain ⟨σ3, a1, a2, a3⟩ := hb1.st (ws := WC (.f 0 1)) rfl (WC_one _)
  obtain ⟨σ', h1⟩ := l83 ws hw hk ws.length 0 (.f 0 1) σ3 (by omega) (by rw [Nat.zero_mul]; exact zero_ok) a2 ⟨_, hb0.but (by decide) a3, rfl⟩
  rw [List.drop_zero] at h1
  refine FnF.mkv (c := b83) fn83 rfl md83 ⟨σ', ?_⟩ (fun _ => rfl)
  refine Eq.trans ?_ h1
  exact b83e _ _ _ _ _ σ3 rfl rfl rfl (cz _) (co _) rfl a1

/-- Rows whose cells are told, whatever their elements' size. -/
def RowE (σ : St) (b e : Nat) (cs : List AV) : Prop := ∃ o, σ.get b = some ⟨cs, e, o⟩ ∧ b < σ.n
theorem RowE.lt {σ : St} {b e : Nat} {cs : List AV} (h : RowE σ b e cs) : b < σ.n := by obtain ⟨_, _, h⟩ := h; exact h
theorem RowE.old {σ σ' : St} {b e : Nat} {cs : List AV} (h : RowE σ b e cs) (k : Old σ σ') : RowE σ' b e cs := by
  obtain ⟨o, hg, hlt⟩ := h; exact ⟨o, by rw [k.2 b hlt]; exact hg, Nat.lt_of_lt_of_le hlt k.1⟩
theorem RowE.but {σ σ' : St} {b c e : Nat} {cs : List AV} (h : RowE σ c e cs) (hc : c ≠ b) (k : But b σ σ') : RowE σ' c e cs := by
  obtain ⟨o, hg, hlt⟩ := h; exact ⟨o, by rw [k.2 c hc]; exact hg, by rw [k.1]; exact hlt⟩
theorem RowE.push {σ : St} {cs : List AV} {e : Nat} {o : Bool} : RowE (σ.push ⟨cs, e, o⟩) σ.n e cs := ⟨o, get_push_same, Nat.lt_succ_self _⟩
theorem RowE.pushed {σ : St} {b e : Nat} {cs : List AV} {x : Blk} (h : RowE σ b e cs) : RowE (σ.push x) b e cs := h.old Old.push
theorem RowE.frz {σ : St} {b e n c d : Nat} {cs : List AV} (h : RowE σ b e cs) (hl : cs.length = n * e) (hf : mapO (frzV σ (d + 1)) cs = some cs) (hc : n ≤ c) : frzV σ (d + 2) (.sl b 0 n c) = some (.lst n cs) := by
  obtain ⟨o, hg, _⟩ := h
  unfold frzV
  simp only [hg]
  rw [getCells_eq, if_pos (by omega), List.drop_zero, List.take_of_length_le (by omega)]
  simp only [hf, hc, if_true]
theorem RowE.rd {σ : St} {b e i w : Nat} {cs v : List AV} (h : RowE σ b e cs) (hv : getCells cs i w = some v) : cellsAt σ (.ptr b i) w = some v := by
  obtain ⟨o, h, _⟩ := h
  simp only [cellsAt, h]; exact hv
theorem RowE.st {σ : St} {b e i : Nat} {cs ws : List AV} (h : RowE σ b e cs) (hi : i + ws.length ≤ cs.length) (ho : allOne ws = true) : ∃ σ', storeCellsA σ b i ws = some σ' ∧ RowE σ' b e (putCells cs i ws) ∧ But b σ σ' := by
  obtain ⟨o, hg, hlt⟩ := h
  refine ⟨σ.set b ⟨putCells cs i ws, e, o⟩, ?_, ⟨o, get_set_eq hg, hlt⟩, rfl, fun c hc => get_set_ne (fun e => hc e.symm)⟩
  rw [storeCellsA_eq, hg]
  simp only []
  rw [if_pos ⟨hi, ho⟩]
theorem build_el {T : Tab} {σ : St} {st e : TypeId} {k : TK} {es y : Nat} {z w : List AV} (ht : T.ty st = some ⟨.slice e, 1, 24, [.nilS]⟩) (he : T.ty e = some ⟨k, es, y, z⟩) (hes : es ≤ 1000) (hw : w.length = es) (hz : z.length = es) (h1 : allOne w = true) : buildSliceA T σ st 1 [(0, .agg w)] = some (.sl σ.n 0 1 1, σ.push ⟨w, es, false⟩) := by
  have hp : putCells (z ++ []) (0 * es) w = w := by
    rw [List.append_nil, Nat.zero_mul, putCells, List.take_zero, List.nil_append, Nat.zero_add, List.drop_of_length_le (by omega), List.append_nil]
  simp only [buildSliceA, ht, he, repeatCells, fillA, AV.cellsOf]
  rw [if_pos (by omega)]
  rw [List.append_nil, Nat.zero_mul] at hp
  simp [hw, h1, hz, hp]
theorem build_e0 {T : Tab} {σ : St} {st e : TypeId} {k : TK} {es y : Nat} {z : List AV} (ht : T.ty st = some ⟨.slice e, 1, 24, [.nilS]⟩) (he : T.ty e = some ⟨k, es, y, z⟩) : buildSliceA T σ st 0 [] = some (.sl σ.n 0 0 0, σ.push ⟨[], es, false⟩) := by
  simp [buildSliceA, ht, he, fillA, repeatCells]
theorem append_el {T : Tab} {σ : St} {b n : Nat} {cs w : List AV} {st e : TypeId} {k : TK} {es y : Nat} {z : List AV} (ht : T.ty st = some ⟨.slice e, 1, 24, [.nilS]⟩) (he : T.ty e = some ⟨k, es, y, z⟩) (hk : ∀ j, k ≠ .int j → True) (hy : 0 < y ∧ y ≤ 100)
    (hw : w.length = es) (h1 : allOne w = true) (hcs : cs.length = n * es) (hb : RowE σ b es cs) (hs : n < 100000000000) :
    ∃ σ', appendA T (σ.push ⟨w, es, false⟩) st st (.sl b 0 n n) (.sl σ.n 0 1 1) = some (.sl (σ.n + 1) 0 (n + 1) (n + 1), σ') ∧ RowE σ' (σ.n + 1) es (cs ++ w) ∧ ∀ c, c ≠ b → c < σ.n → σ'.get c = σ.get c := by
  obtain ⟨o, hg, hlt⟩ := hb
  have hf : firstA (σ.push ⟨w, es, false⟩) es 1 (.sl σ.n 0 1 1) = some w := by
    simp only [firstA, get_push_same]
    rw [getCells_eq, if_pos (by omega), List.drop_zero, List.take_of_length_le (by omega)]
  have hg2 : (σ.push ⟨w, es, false⟩).get b = some ⟨cs, es, o⟩ := by rw [get_push_lt hlt]; exact hg
  have hc : getCells cs 0 (n * es) = some cs := by rw [getCells_eq, if_pos (by omega), List.drop_zero, List.take_of_length_le (by omega)]
  have hyb : (n + 1) * y ≤ 140737488355328 := by
    have : (n + 1) * y ≤ 100000000000 * 100 := Nat.mul_le_mul (by omega) hy.2
    omega
  refine ⟨(if o then (σ.push ⟨w, es, false⟩).del b else σ.push ⟨w, es, false⟩).push ⟨cs ++ w, es, true⟩, ?_, ⟨true, ?_, ?_⟩, ?_⟩
  · unfold appendA
    simp only [ht, he, lenA, hf, h1, hg2, hc]
    rw [if_neg (by simp), if_neg (by omega), if_pos ⟨hyb, by omega, trivial, by omega, hy.1⟩]
    cases o <;> simp [n_push]
  · cases o <;> exact get_push_same
  · cases o <;> simp [n_push, n_del]
  · intro c hc hcn
    cases o
    · simp only [Bool.false_eq_true, if_false]
      rw [get_push_lt (by show c < σ.n + 1; omega), get_push_lt hcn]
    · simp only [if_true]
      rw [get_push_lt (by show c < σ.n + 1; omega), get_del_ne (fun e => hc e.symm), get_push_lt hcn]
/-- Fractions as they come in. -/
def FC (x : Int × Int) : List AV := [.int .i64 x.1, .int .i64 x.2]
theorem FC_len (x : Int × Int) : (FC x).length = 2 := rfl
theorem FC_one (x : Int × Int) : allOne (FC x) = true := rfl
def FS (l : List (Int × Int)) : AV := .lst l.length (flat FC l)
theorem FS_get {l : List (Int × Int)} {i : Nat} (h : i < l.length) (σ : St) : cellsAt σ (.lp (flat FC l) (i * 2)) 2 = some (FC l[i]) := flat_get FC_len l i _ (List.getElem?_eq_getElem h)
theorem FS_num {l : List (Int × Int)} {i : Nat} (h : i < l.length) (σ : St) : cellsAt σ (.lp (flat FC l) (i * 2)) 1 = some [.int .i64 l[i].1] := by
  have h1 := FS_get h σ
  simp only [cellsAt, getCells_eq] at h1 ⊢
  split at h1
  · rename_i hl
    rw [if_pos (by omega)]
    have h2 := congrArg (Option.map (List.take 1)) h1
    simpa [FC, List.take_take] using h2
  · cases h1
def vfl (l : List (Int × Int)) : Bool := l.all fun x => vfr x.1 x.2
def rq (x : Int × Int) : Rat := mkRat x.1 x.2.toNat
def sumQ (l : List (Int × Int)) : Rat := l.foldl (fun s x => s + rq x) 0
/-- Chances. -/
def isCh (l : List (Int × Int)) : Bool := (decide (1 ≤ l.length) && decide (l.length ≤ 16)) && (vfl l && ((l.all fun x => decide (0 ≤ x.1)) && decide (sumQ l = 1)))

theorem v130 (l : List (Int × Int)) : FnV TT 130 [FS l] (.int .i64 l.length) := by
  refine FnV.mk (c := Try.f130.body.getD .skip) fn130 rfl md130 (ex1 ?_) (fun _ => rfl) rfl
  rw [fi130]
  simp only [Try.f130, Option.getD]
  unfold FS
  simp (maxSteps := 1000000) (disch := omega) [cellsAt, getCells, takeN, dropN, fieldAddrA, allOne, AV.one, n_push, storeCellsA, putN, overN, St.push, St.get, St.set, hget, hset, blt_dec, buildA, sizesOf, fillA, putCells, List.take_succ_cons, List.take_zero, List.drop_succ_cons, List.drop_zero, List.nil_append, List.cons_append, List.length_cons, List.length_nil, eqvs_dgs]

noncomputable def b77 : Code := Try.f77.body.getD .skip
noncomputable def B77_0 : Code := (bodyC (bodyC (sndC (fstC (sndC (sndC b77))))))
noncomputable def K77_0 : List It := .lp B77_0 :: .blk 0 :: .code (sndC (sndC (sndC b77))) :: []
theorem xl77_0 {fi : FI} {env : Env} {σ : St} : exI TT fi K77_0 env σ = exI TT fi (.code B77_0 :: K77_0) env σ := by unfold K77_0; exact xI_lp
noncomputable def R77_0_0 : List It := .code (sndC (sndC (sndC b77))) :: []
theorem eK77_0_0 : exitA 0 K77_0 = some R77_0_0 := rfl
theorem s77 (n i b m b2 m2 : Nat) (cells x w : List AV) (σ σ1 σ2 : St) (hi : i < n) (r1 : cellsAt σ (.lp cells (i * 2)) 2 = some x) (c1 : callI TT 82 [.agg x] σ = some (.agg w, σ)) (c2 : buildSliceA TT σ 101 1 [(0, .agg w)] = some (.sl σ.n 0 1 1, σ1)) (c3 : appendA TT σ1 101 101 (.sl b 0 m m) (.sl σ.n 0 1 1) = some (.sl b2 0 m2 m2, σ2)) (hw : wrapA .i64 ((i : Int) + 1) = (i : Int) + 1) :
    exI TT (FI.of Try.f77 (TT.an 77)) K77_0 [(0, .lst n cells), (3, .sl b 0 m m), (4, .int .i64 i)] σ = exI TT (FI.of Try.f77 (TT.an 77)) K77_0 [(0, .lst n cells), (3, .sl b2 0 m2 m2), (4, .int .i64 ((i : Int) + 1))] σ2 := by
  rw [fi77]
  conv => lhs; rw [xl77_0]
  simp only [B77_0, b77, Try.f77, Option.getD, fstC, sndC, bodyC, thnC, elsC]
  simp (maxSteps := 1000000) (disch := omega) [eK77_0_0, r1, c1, c2, c3, hw]
theorem e77 (n b m : Nat) (cells : List AV) (σ : St) : exI TT (FI.of Try.f77 (TT.an 77)) K77_0 [(0, .lst n cells), (3, .sl b 0 m m), (4, .int .i64 n)] σ = some (.sl b 0 m m, σ) := by
  rw [fi77, xl77_0]
  simp only [B77_0, b77, Try.f77, Option.getD, fstC, sndC, bodyC, thnC, elsC]
  simp (maxSteps := 1000000) (disch := omega) [eK77_0_0]
  simp only [R77_0_0, b77, Try.f77, Option.getD, fstC, sndC, bodyC, thnC, elsC]
  simp (maxSteps := 1000000) (disch := omega) [eK77_0_0]
theorem b77e (n : Nat) (cells : List AV) (σ1 : St) (c1 : buildSliceA TT ⟨[], 0⟩ 101 0 [] = some (.sl 0 0 0 0, σ1)) : exI TT (FI.of Try.f77 (TT.an 77)) [.code b77] (paramsE 0 [.lst n cells]) ⟨[], 0⟩ = exI TT (FI.of Try.f77 (TT.an 77)) K77_0 [(0, .lst n cells), (3, .sl 0 0 0 0), (4, .int .i64 0)] σ1 := by
  rw [fi77]
  simp only [b77, Try.f77, Option.getD, fstC, sndC, bodyC, thnC, elsC]
  simp (maxSteps := 1000000) (disch := omega) [eK77_0_0, c1]
  rfl
def wof (x : Int × Int) : Wd := .f x.1 x.2
theorem l77 (l : List (Int × Int)) (hv : vfl l = true) (hs : l.length ≤ 1000000) : ∀ (m i b : Nat) (σ : St), i + m = l.length → RowE σ b 6 (flat WC ((l.take i).map wof)) →
    ∃ b' σ', exI TT (FI.of Try.f77 (TT.an 77)) K77_0 [(0, FS l), (3, .sl b 0 i i), (4, .int .i64 i)] σ = some (.sl b' 0 l.length l.length, σ') ∧ RowE σ' b' 6 (flat WC (l.map wof)) := by
  intro m
  induction m with
  | zero =>
    intro i b σ hi hr
    obtain rfl : i = l.length := by omega
    rw [List.take_of_length_le (Nat.le_refl _)] at hr
    exact ⟨b, σ, e77 l.length b l.length (flat FC l) σ, hr⟩
  | succ m ih =>
    intro i b σ hi hr
    have hil : i < l.length := by omega
    have hvi : vfr l[i].1 l[i].2 = true := by
      simp only [vfl, List.all_eq_true] at hv
      exact hv _ (List.getElem_mem hil)
    have c1 := (r82 hvi).pure σ rfl rfl
    have c2 := build_el (T := TT) (σ := σ) (st := 101) (w := WC (wof l[i])) ty101 ty99 (by decide) rfl rfl rfl
    obtain ⟨σ2, a1, a2, _⟩ := append_el (T := TT) (st := 101) (n := i) ty101 ty99 (fun _ _ => trivial) (by decide) (WC_len (wof l[i])) (WC_one _) (by rw [flat_len WC_len]; simp; omega) hr (by omega)
    have e : flat WC ((l.take i).map wof) ++ WC (wof l[i]) = flat WC ((l.take (i + 1)).map wof) := by
      rw [List.take_succ_eq_append_getElem hil, List.map_append, flat_app]; simp [flat]
    rw [e] at a2
    obtain ⟨b', σ', k1, k2⟩ := ih (i + 1) (σ.n + 1) σ2 (by omega) a2
    refine ⟨b', σ', ?_, k2⟩
    rw [← k1]
    have hi1 : ((i + 1 : Nat) : Int) = (i : Int) + 1 := by omega
    rw [hi1]
    exact s77 l.length i b i (σ.n + 1) (i + 1) (flat FC l) (FC l[i]) (WC (wof l[i])) σ _ σ2 hil (FS_get hil σ) c1 c2 a1 (wrapA_id (by omega) (by omega))
theorem r77 (l : List (Int × Int)) (hv : vfl l = true) (hs : l.length ≤ 1000000) : FnF TT 77 [FS l] (WS (l.map wof)) := by
  have hb := build_e0 (T := TT) (σ := ⟨[], 0⟩) (st := 101) ty101 ty99
  obtain ⟨b', σ', k1, k2⟩ := l77 l hv hs l.length 0 0 _ (by omega) (RowE.push (σ := ⟨[], 0⟩) (cs := []) (e := 6) (o := false))
  refine FnF.mk (c := b77) fn77 rfl md77 ⟨σ', _, (b77e _ _ _ hb).trans k1, ?_⟩
  have := k2.frz (d := 4) (n := l.length) (c := l.length) (by rw [flat_len WC_len]; simp) (flat_frz (fun v => WC_frz σ' 4 v) _) (Nat.le_refl _)
  rw [show WS (l.map wof) = .lst l.length (flat WC (l.map wof)) by simp [WS]]
  exact this

set_option maxHeartbeats 8000000 in
theorem k88 (b1 f1 b2 f2 b3 f3 b4 f4 b5 f5 : Bool) (a1 a2 a3 a4 a5 c1_ c2_ c3_ c4_ c5_ : Int) (nx ny nu nv np nq ns nt nw nz : Nat) (lx ly lu lv lp lq ls lt lw lz : List Nat) (c1 : ∀ σ, callI TT 82 [.agg [.int .i64 (-1), .int .i64 1]] σ = some (.agg [.bool b3, .lst np (dgs .i64 lp), .lst nq (dgs .i64 lq), .bool f3, .int .i64 a3, .int .i64 c3_], σ)) (c2 : ∀ σ, callI TT 81 [.agg [.bool b3, .lst np (dgs .i64 lp), .lst nq (dgs .i64 lq), .bool f3, .int .i64 a3, .int .i64 c3_], .agg [.bool b2, .lst nu (dgs .i64 lu), .lst nv (dgs .i64 lv), .bool f2, .int .i64 a2, .int .i64 c2_]] σ = some (.agg [.bool b4, .lst ns (dgs .i64 ls), .lst nt (dgs .i64 lt), .bool f4, .int .i64 a4, .int .i64 c4_], σ))
    (c3 : ∀ σ, callI TT 141 [.agg [.bool b1, .lst nx (dgs .i64 lx), .lst ny (dgs .i64 ly), .bool f1, .int .i64 a1, .int .i64 c1_], .agg [.bool b4, .lst ns (dgs .i64 ls), .lst nt (dgs .i64 lt), .bool f4, .int .i64 a4, .int .i64 c4_]] σ = some (.agg [.bool b5, .lst nw (dgs .i64 lw), .lst nz (dgs .i64 lz), .bool f5, .int .i64 a5, .int .i64 c5_], σ)) :
    ∃ σ1, exI TT (FI.of Try.f88 (TT.an 88)) [.code (Try.f88.body.getD .skip)] (paramsE 0 [.agg [.bool b1, .lst nx (dgs .i64 lx), .lst ny (dgs .i64 ly), .bool f1, .int .i64 a1, .int .i64 c1_], .agg [.bool b2, .lst nu (dgs .i64 lu), .lst nv (dgs .i64 lv), .bool f2, .int .i64 a2, .int .i64 c2_]]) ⟨[], 0⟩ = some (.int .i64 (if nw = 0 then 0 else if b5 = true then -1 else 1), σ1) := by
  refine ex1 ?_
  rw [fi88]
  simp only [Try.f88, Option.getD]
  by_cases hw : nw = 0
  · subst hw

    simp (maxSteps := 1000000) (disch := omega) [cellsAt, getCells, takeN, dropN, fieldAddrA, allOne, AV.one, n_push, storeCellsA, putN, overN, St.push, St.get, St.set, hget, hset, blt_dec, buildA, sizesOf, fillA, putCells, List.take_succ_cons, List.take_zero, List.drop_succ_cons, List.drop_zero, List.nil_append, List.cons_append, List.length_cons, List.length_nil, eqvs_dgs, c1, c2, c3]
  · have hw0 : ¬ (nw : Int) = 0 := by omega
    cases b5 <;>
      simp (maxSteps := 1000000) (disch := omega) [cellsAt, getCells, takeN, dropN, fieldAddrA, allOne, AV.one, n_push, storeCellsA, putN, overN, St.push, St.get, St.set, hget, hset, blt_dec, buildA, sizesOf, fillA, putCells, List.take_succ_cons, List.take_zero, List.drop_succ_cons, List.drop_zero, List.nil_append, List.cons_append, List.length_cons, List.length_nil, eqvs_dgs, c1, c2, c3, hw, hw0]
theorem neg1_q : (Wd.f (-1) 1).q = -1 ∧ (Wd.f (-1) 1).ok 60 := ⟨by rw [Wd.q_f]; rfl, by decide, Nat.le_refl _⟩
theorem r88 {k : Nat} {v w : Wd} (hv : v.ok k) (hw : w.ok k) (hk : 60 ≤ k) (hk2 : k ≤ 40000000) : FnV TT 88 [WA v, WA w] (.int .i64 (cmpR v.q w.q)) := by
  have co := fun σ : St => (r82 (n := -1) (d := 1) (by decide)).pure σ rfl rfl
  obtain ⟨n1, n2⟩ := neg1_q
  have cm := r81 (n2.mono hk) hw (by omega)
  obtain ⟨q1, o1⟩ := wmul_q n2 hw
  have ca := r141 (hv.mono (show k ≤ 60 + k by omega)) o1 (by omega)
  obtain ⟨q2, o2⟩ := wadd_q hv o1
  obtain ⟨d1, d2, d3⟩ := o2.b
  rw [q1, n1] at q2
  have hz : v.q + -1 * w.q = v.q - w.q := by rw [Rat.neg_mul, Rat.one_mul, Rat.sub_eq_add_neg]
  rw [hz] at q2
  have e : cmpR v.q w.q = if (dg 1073741824 (wadd v (wmul (.f (-1) 1) w)).n).length = 0 then 0 else if (wadd v (wmul (.f (-1) 1) w)).neg = true then -1 else 1 := by
    unfold cmpR
    rw [← q2]
    generalize wadd v (wmul (.f (-1) 1) w) = D at *
    by_cases hn : D.n = 0
    · have : D.q = 0 := by rw [Wd.q, hn, sg_zero, Rat.zero_mkRat]
      rw [if_pos this, if_pos (by rw [hn]; rfl)]
    · have hq : D.q ≠ 0 := by
        intro h
        have h2 := (low_num D.neg D.n D.d (by omega)).1
        have h3 : (mkRat (sg D.neg D.n) D.d) = 0 := h
        rw [h3] at h2
        have : 0 < D.n / Nat.gcd D.n D.d := Nat.div_pos (Nat.le_of_dvd (by omega) (Nat.gcd_dvd_left _ _)) (Nat.gcd_pos_of_pos_right _ d1)
        simp at h2
        omega
      rw [if_neg hq, if_neg (fun h => hn ((dg_len_zero (by decide)).1 h))]
      have := low_neg D.neg D.n D.d (by omega) hn
      rw [show ng D.q = D.neg from this]
  rw [e]
  exact FnV.mk fn88 rfl md88 (k88 _ _ _ _ _ _ _ _ _ _ _ _ _ _ _ _ _ _ _ _ _ _ _ _ _ _ _ _ _ _ _ _ _ _ _ _ _ _ _ _ co (fun σ => cm.pure σ rfl rfl) (fun σ => ca.pure σ rfl rfl)) (fun _ => rfl) rfl

noncomputable def b123 : Code := Try.f123.body.getD .skip
noncomputable def B123_0 : Code := (bodyC (bodyC (sndC (fstC (sndC b123)))))
noncomputable def K123_0 : List It := .lp B123_0 :: .blk 0 :: .code (sndC (sndC b123)) :: []
theorem xl123_0 {fi : FI} {env : Env} {σ : St} : exI TT fi K123_0 env σ = exI TT fi (.code B123_0 :: K123_0) env σ := by unfold K123_0; exact xI_lp
noncomputable def R123_0_0 : List It := .code (sndC (sndC b123)) :: []
theorem eK123_0_0 : exitA 0 K123_0 = some R123_0_0 := rfl
theorem s123t (n i : Nat) (cells x : List AV) (σ : St) (hi : i < n) (r1 : cellsAt σ (.lp cells (i * 2)) 2 = some x) (c1 : callI TT 170 [.agg x] σ = some (.bool true, σ)) (hw : wrapA .i64 ((i : Int) + 1) = (i : Int) + 1) :
    exI TT (FI.of Try.f123 (TT.an 123)) K123_0 [(0, .lst n cells), (3, .int .i64 i)] σ = exI TT (FI.of Try.f123 (TT.an 123)) K123_0 [(0, .lst n cells), (3, .int .i64 ((i : Int) + 1))] σ := by
  rw [fi123]
  conv => lhs; rw [xl123_0]
  simp only [B123_0, b123, Try.f123, Option.getD, fstC, sndC, bodyC, thnC, elsC]
  simp (maxSteps := 1000000) (disch := omega) [eK123_0_0, r1, c1, hw]
theorem s123f (n i : Nat) (cells x : List AV) (σ : St) (hi : i < n) (r1 : cellsAt σ (.lp cells (i * 2)) 2 = some x) (c1 : callI TT 170 [.agg x] σ = some (.bool false, σ)) :
    exI TT (FI.of Try.f123 (TT.an 123)) K123_0 [(0, .lst n cells), (3, .int .i64 i)] σ = some (.bool false, σ) := by
  rw [fi123, xl123_0]
  simp only [B123_0, b123, Try.f123, Option.getD, fstC, sndC, bodyC, thnC, elsC]
  simp (maxSteps := 1000000) (disch := omega) [eK123_0_0, r1, c1]
theorem e123 (n : Nat) (cells : List AV) (σ : St) : exI TT (FI.of Try.f123 (TT.an 123)) K123_0 [(0, .lst n cells), (3, .int .i64 n)] σ = some (.bool true, σ) := by
  rw [fi123, xl123_0]
  simp only [B123_0, b123, Try.f123, Option.getD, fstC, sndC, bodyC, thnC, elsC]
  simp (maxSteps := 1000000) (disch := omega) [eK123_0_0]
  simp only [R123_0_0, b123, Try.f123, Option.getD, fstC, sndC, bodyC, thnC, elsC]
  simp (maxSteps := 1000000) (disch := omega) [eK123_0_0]
theorem l123 (l : List (Int × Int)) (hs : l.length ≤ 10000000) (σ : St) : ∀ (m i : Nat), i + m = l.length → exI TT (FI.of Try.f123 (TT.an 123)) K123_0 [(0, FS l), (3, .int .i64 i)] σ = some (.bool (vfl (l.drop i)), σ) := by
  intro m
  induction m with
  | zero =>
    intro i hi
    obtain rfl : i = l.length := by omega
    rw [List.drop_of_length_le (Nat.le_refl _)]
    exact e123 l.length (flat FC l) σ
  | succ m ih =>
    intro i hi
    have hil : i < l.length := by omega
    have c1 := v170 l[i].1 l[i].2 σ [.agg (FC l[i])] rfl
    rw [List.drop_eq_getElem_cons hil]
    have hi1 : ((i + 1 : Nat) : Int) = (i : Int) + 1 := by omega
    cases hv : vfr l[i].1 l[i].2 with
    | true =>
      rw [hv] at c1
      have h := ih (i + 1) (by omega)
      rw [hi1] at h
      have e : vfl (l[i] :: l.drop (i + 1)) = vfl (l.drop (i + 1)) := by unfold vfl; rw [List.all_cons, hv, Bool.true_and]
      rw [e, ← h]
      exact s123t l.length i (flat FC l) _ σ hil (FS_get hil σ) c1 (wrapA_id (by omega) (by omega))
    | false =>
      rw [hv] at c1
      have e : vfl (l[i] :: l.drop (i + 1)) = false := by unfold vfl; rw [List.all_cons, hv, Bool.false_and]
      rw [e]
      exact s123f l.length i (flat FC l) _ σ hil (FS_get hil σ) c1
theorem r123 (l : List (Int × Int)) (hs : l.length ≤ 10000000) : FnV TT 123 [FS l] (.bool (vfl l)) := by
  have h := l123 l hs ⟨[], 0⟩ l.length 0 (by omega)
  rw [List.drop_zero] at h
  refine FnV.mk (c := b123) fn123 rfl md123 ⟨⟨[], 0⟩, ?_⟩ (fun _ => rfl) rfl
  rw [← h, fi123]
  unfold FS
  simp only [b123, Try.f123, Option.getD, fstC, sndC, bodyC, thnC, elsC]
  simp (maxSteps := 1000000) (disch := omega) [eK123_0_0]
  rfl

noncomputable def b74 : Code := Try.f74.body.getD .skip
noncomputable def B74_0 : Code := (bodyC (bodyC (sndC (fstC (sndC (sndC b74))))))
noncomputable def K74_0 : List It := .lp B74_0 :: .blk 0 :: .code (sndC (sndC (sndC b74))) :: []
theorem xl74_0 {fi : FI} {env : Env} {σ : St} : exI TT fi K74_0 env σ = exI TT fi (.code B74_0 :: K74_0) env σ := by unfold K74_0; exact xI_lp
noncomputable def R74_0_0 : List It := .code (sndC (sndC (sndC b74))) :: []
theorem eK74_0_0 : exitA 0 K74_0 = some R74_0_0 := rfl
theorem s74t (n i : Nat) (cells : List AV) (x : Int) (σ : St) (hi : i < n) (r1 : cellsAt σ (.lp cells (i * 2)) 1 = some [.int .i64 x]) (hx : 0 ≤ x) (hw : wrapA .i64 ((i : Int) + 1) = (i : Int) + 1) :
    exI TT (FI.of Try.f74 (TT.an 74)) K74_0 [(0, .lst n cells), (3, .int .i64 i)] σ = exI TT (FI.of Try.f74 (TT.an 74)) K74_0 [(0, .lst n cells), (3, .int .i64 ((i : Int) + 1))] σ := by
  rw [fi74]
  conv => lhs; rw [xl74_0]
  simp only [B74_0, b74, Try.f74, Option.getD, fstC, sndC, bodyC, thnC, elsC]
  simp (maxSteps := 1000000) (disch := omega) [eK74_0_0, fieldAddrA, r1, hw]
theorem s74f (n i : Nat) (cells : List AV) (x : Int) (σ : St) (hi : i < n) (r1 : cellsAt σ (.lp cells (i * 2)) 1 = some [.int .i64 x]) (hx : x < 0) :
    exI TT (FI.of Try.f74 (TT.an 74)) K74_0 [(0, .lst n cells), (3, .int .i64 i)] σ = some (.bool false, σ) := by
  rw [fi74, xl74_0]
  simp only [B74_0, b74, Try.f74, Option.getD, fstC, sndC, bodyC, thnC, elsC]
  simp (maxSteps := 1000000) (disch := omega) [eK74_0_0, fieldAddrA, r1]
theorem e74 (n : Nat) (cells w s o : List AV) (z : Int) (q : Bool) (σ : St) (c1 : callI TT 77 [.lst n cells] σ = some (.lst n w, σ)) (c2 : callI TT 83 [.lst n w] σ = some (.agg s, σ)) (c3 : callI TT 82 [.agg [.int .i64 1, .int .i64 1]] σ = some (.agg o, σ)) (c4 : callI TT 88 [.agg s, .agg o] σ = some (.int .i64 z, σ)) (hq : decide (z = 0) = q) : exI TT (FI.of Try.f74 (TT.an 74)) K74_0 [(0, .lst n cells), (3, .int .i64 n)] σ = some (.bool q, σ) := by
  rw [fi74, xl74_0]
  simp only [B74_0, b74, Try.f74, Option.getD, fstC, sndC, bodyC, thnC, elsC]
  simp (maxSteps := 1000000) (disch := omega) [eK74_0_0]
  simp only [R74_0_0, b74, Try.f74, Option.getD, fstC, sndC, bodyC, thnC, elsC]
  subst hq
  simp (maxSteps := 1000000) [-ieqb_t, -ieqb_f, -ieqb_self, eK74_0_0, cellsAt, getCells, takeN, dropN, fieldAddrA, allOne, AV.one, n_push, storeCellsA, putN, overN, St.push, St.get, St.set, hget, hset, blt_dec, buildA, sizesOf, fillA, putCells, List.take_succ_cons, List.take_zero, List.drop_succ_cons, List.drop_zero, List.nil_append, List.cons_append, List.length_cons, List.length_nil, eqvs_dgs, c1, c2, c3, c4, ieqb_dec]
theorem b74f (n : Nat) (cells : List AV) (q : Bool) (σ : St) (c1 : callI TT 123 [.lst n cells] σ = some (.bool q, σ)) (h : ¬ (1 ≤ n ∧ n ≤ 16 ∧ q = true)) : exI TT (FI.of Try.f74 (TT.an 74)) [.code b74] (paramsE 0 [.lst n cells]) σ = some (.bool false, σ) := by
  rw [fi74]
  simp only [b74, Try.f74, Option.getD, fstC, sndC, bodyC, thnC, elsC]
  by_cases h1 : n < 1
  · have h1' : (n : Int) < 1 := by omega
    simp (maxSteps := 1000000) (disch := omega) [eK74_0_0]
  · have h1' : (1 : Int) ≤ (n : Int) := by omega
    by_cases h2 : 16 < n
    · have h2' : (16 : Int) < (n : Int) := by omega
      simp (maxSteps := 1000000) (disch := omega) [eK74_0_0]
    · have h2' : (n : Int) ≤ 16 := by omega
      cases q with
      | true => exact absurd ⟨by omega, by omega, rfl⟩ h
      | false =>
        simp (maxSteps := 1000000) (disch := omega) [eK74_0_0, c1]
theorem b74t (n : Nat) (cells : List AV) (σ : St) (c1 : callI TT 123 [.lst n cells] σ = some (.bool true, σ)) (h1 : 1 ≤ n) (h2 : n ≤ 16) : exI TT (FI.of Try.f74 (TT.an 74)) [.code b74] (paramsE 0 [.lst n cells]) σ = exI TT (FI.of Try.f74 (TT.an 74)) K74_0 [(0, .lst n cells), (3, .int .i64 0)] σ := by
  have h1' : (1 : Int) ≤ (n : Int) := by omega
  have h2' : (n : Int) ≤ 16 := by omega
  rw [fi74]
  simp only [b74, Try.f74, Option.getD, fstC, sndC, bodyC, thnC, elsC]
  simp (maxSteps := 1000000) (disch := omega) [eK74_0_0, c1]
  rfl
theorem l74 (l : List (Int × Int)) (hs : l.length ≤ 10000000) (σ : St) (q : Bool) (hq : exI TT (FI.of Try.f74 (TT.an 74)) K74_0 [(0, FS l), (3, .int .i64 l.length)] σ = some (.bool q, σ)) : ∀ (m i : Nat), i + m = l.length → exI TT (FI.of Try.f74 (TT.an 74)) K74_0 [(0, FS l), (3, .int .i64 i)] σ = some (.bool (((l.drop i).all fun x => decide (0 ≤ x.1)) && q), σ) := by
  intro m
  induction m with
  | zero =>
    intro i hi
    obtain rfl : i = l.length := by omega
    rw [List.drop_of_length_le (Nat.le_refl _)]
    simpa using hq
  | succ m ih =>
    intro i hi
    have hil : i < l.length := by omega
    rw [List.drop_eq_getElem_cons hil]
    have hi1 : ((i + 1 : Nat) : Int) = (i : Int) + 1 := by omega
    by_cases hx : 0 ≤ l[i].1
    · have h := ih (i + 1) (by omega)
      rw [hi1] at h
      rw [List.all_cons, decide_eq_true hx, Bool.true_and, ← h]
      exact s74t l.length i (flat FC l) _ σ hil (FS_num hil σ) hx (wrapA_id (by omega) (by omega))
    · rw [List.all_cons, decide_eq_false hx]
      exact s74f l.length i (flat FC l) _ σ hil (FS_num hil σ) (by omega)
theorem foldl_map_q (l : List (Int × Int)) : ∀ s : Rat, (l.map wof).foldl (fun (x : Rat) w => x + w.q) s = l.foldl (fun s x => s + rq x) s := by
  induction l with
  | nil => intro s; rfl
  | cons x r ih => intro s; rw [List.map_cons, List.foldl_cons, List.foldl_cons, ih, show (wof x).q = rq x from Wd.q_f _ _]
theorem wof_ok {l : List (Int × Int)} (hv : vfl l = true) : ∀ w ∈ l.map wof, w.ok 60 := by
  intro w hw
  obtain ⟨x, hx, rfl⟩ := List.mem_map.1 hw
  simp only [vfl, List.all_eq_true] at hv
  exact ⟨hv x hx, Nat.le_refl _⟩
theorem r74 (l : List (Int × Int)) (hs : l.length ≤ 10000000) : FnV TT 74 [FS l] (.bool (isCh l)) := by
  refine FnV.mk (c := b74) fn74 rfl md74 ⟨⟨[], 0⟩, ?_⟩ (fun _ => rfl) rfl
  have ca := r123 l hs ⟨[], 0⟩ [FS l] rfl
  by_cases h : 1 ≤ l.length ∧ l.length ≤ 16 ∧ vfl l = true
  · obtain ⟨h1, h2, h3⟩ := h
    rw [h3] at ca
    refine (b74t _ _ _ ca h1 h2).trans ?_
    have hok := wof_ok h3
    have cw := (r77 l h3 (by omega)).pure ⟨[], 0⟩ rfl rfl
    have cs := (r83 (l.map wof) hok (by rw [List.length_map]; omega)).pure ⟨[], 0⟩ rfl rfl
    rw [show (Go.Proofs.Ytihoeimlkbjgmaa.WS (l.map wof)) = AV.lst l.length (flat WC (l.map wof)) by simp [Go.Proofs.Ytihoeimlkbjgmaa.WS]] at cw cs
    obtain ⟨q1, o1⟩ := wsum_q hok
    rw [List.length_map] at o1
    have co := (r82 (n := 1) (d := 1) (by decide)).pure ⟨[], 0⟩ rfl rfl
    have o2 : (Wd.f 1 1).ok 60 := ⟨by decide, Nat.le_refl _⟩
    have cc := r88 o1 (o2.mono (by omega)) (by omega) (by omega) ⟨[], 0⟩ [WA (wsum (l.map wof)), WA (.f 1 1)] rfl
    have e1 : decide (cmpR (wsum (l.map wof)).q (Wd.f 1 1).q = 0) = decide (sumQ l = 1) := by
      have hq : (wsum (l.map wof)).q = sumQ l := by rw [q1, foldl_map_q]; rfl
      have h1q : (Wd.f 1 1).q = 1 := by rw [Wd.q_f]; rfl
      rw [hq, h1q]
      by_cases hh : sumQ l = 1
      · rw [decide_eq_true hh, decide_eq_true (cmpR_zero.2 hh)]
      · rw [decide_eq_false hh, decide_eq_false (fun h => hh (cmpR_zero.1 h))]
    have he := e74 l.length (flat FC l) (flat WC (l.map wof)) _ _ _ _ ⟨[], 0⟩ cw cs co cc e1
    have hl := l74 l hs ⟨[], 0⟩ _ he l.length 0 (by omega)
    rw [List.drop_zero] at hl
    have e2 : isCh l = ((l.all fun x => decide (0 ≤ x.1)) && decide (sumQ l = 1)) := by
      unfold isCh; rw [decide_eq_true h1, decide_eq_true h2, h3]; rfl
    rw [e2]
    exact hl
  · have e2 : isCh l = false := by
      cases hx : isCh l with
      | false => rfl
      | true =>
        simp only [isCh, Bool.and_eq_true, decide_eq_true_eq] at hx
        exact absurd ⟨hx.1.1, hx.1.2, hx.2.1⟩ h
    rw [e2]
    exact b74f _ _ _ _ ca h

noncomputable def b57 : Code := Try.f57.body.getD .skip
noncomputable def B57_0 : Code := (bodyC (bodyC (sndC (fstC (sndC b57)))))
noncomputable def K57_0 : List It := .lp B57_0 :: .blk 0 :: .code (sndC (sndC b57)) :: []
theorem xl57_0 {fi : FI} {env : Env} {σ : St} : exI TT fi K57_0 env σ = exI TT fi (.code B57_0 :: K57_0) env σ := by unfold K57_0; exact xI_lp
noncomputable def R57_0_0 : List It := .code (sndC (sndC b57)) :: []
theorem eK57_0_0 : exitA 0 K57_0 = some R57_0_0 := rfl
theorem pow_sh (i : Nat) (hi : i ≤ 60) : wrapA .i64 (shlA (1 : Int) (min i IntKind.i64.bits)) = ((2 ^ i : Nat) : Int) := by
  rw [Nat.min_eq_left (by simp [IntKind.bits]; omega)]
  have e : shlA (1 : Int) i = ((1 * 2 ^ i : Nat) : Int) := rfl
  have h : 2 ^ i ≤ 2 ^ 60 := Nat.pow_le_pow_right (by decide) hi
  rw [e, Nat.one_mul]
  exact wi64 (Nat.le_trans h (by decide))
theorem s57n (n i P : Nat) (cells : List AV) (σ : St) (hi : i ≤ 4) (w1 : wrapA .u64 (i : Int) = (i : Int)) (w2 : wrapA .i64 (shlA (1 : Int) (min i IntKind.i64.bits)) = (P : Int)) (h : n ≠ P) (hw : wrapA .i64 ((i : Int) + 1) = (i : Int) + 1) :
    exI TT (FI.of Try.f57 (TT.an 57)) K57_0 [(0, .lst n cells), (3, .int .i64 i)] σ = exI TT (FI.of Try.f57 (TT.an 57)) K57_0 [(0, .lst n cells), (3, .int .i64 ((i : Int) + 1))] σ := by
  have h' : ¬ (n : Int) = (P : Int) := by omega
  rw [fi57]
  conv => lhs; rw [xl57_0]
  simp only [B57_0, b57, Try.f57, Option.getD, fstC, sndC, bodyC, thnC, elsC]
  simp (maxSteps := 1000000) (disch := omega) [eK57_0_0, convA, w1, w2, h', hw]
theorem s57f (n i P : Nat) (cells : List AV) (σ : St) (hi : i ≤ 4) (w1 : wrapA .u64 (i : Int) = (i : Int)) (w2 : wrapA .i64 (shlA (1 : Int) (min i IntKind.i64.bits)) = (P : Int)) (h : n = P) (c1 : callI TT 74 [.lst n cells] σ = some (.bool false, σ)) (hw : wrapA .i64 ((i : Int) + 1) = (i : Int) + 1) :
    exI TT (FI.of Try.f57 (TT.an 57)) K57_0 [(0, .lst n cells), (3, .int .i64 i)] σ = exI TT (FI.of Try.f57 (TT.an 57)) K57_0 [(0, .lst n cells), (3, .int .i64 ((i : Int) + 1))] σ := by
  subst h
  rw [fi57]
  conv => lhs; rw [xl57_0]
  simp only [B57_0, b57, Try.f57, Option.getD, fstC, sndC, bodyC, thnC, elsC]
  simp (maxSteps := 1000000) (disch := omega) [eK57_0_0, convA, w1, w2, c1, hw]
theorem s57t (n i P : Nat) (cells : List AV) (σ : St) (hi : i ≤ 4) (w1 : wrapA .u64 (i : Int) = (i : Int)) (w2 : wrapA .i64 (shlA (1 : Int) (min i IntKind.i64.bits)) = (P : Int)) (h : n = P) (c1 : callI TT 74 [.lst n cells] σ = some (.bool true, σ)) :
    exI TT (FI.of Try.f57 (TT.an 57)) K57_0 [(0, .lst n cells), (3, .int .i64 i)] σ = some (.int .i64 i, σ) := by
  subst h
  rw [fi57, xl57_0]
  simp only [B57_0, b57, Try.f57, Option.getD, fstC, sndC, bodyC, thnC, elsC]
  simp (maxSteps := 1000000) (disch := omega) [eK57_0_0, convA, w1, w2, c1]
theorem e57 (n : Nat) (cells : List AV) (σ : St) : exI TT (FI.of Try.f57 (TT.an 57)) K57_0 [(0, .lst n cells), (3, .int .i64 5)] σ = some (.int .i64 0, σ) := by
  rw [fi57, xl57_0]
  simp only [B57_0, b57, Try.f57, Option.getD, fstC, sndC, bodyC, thnC, elsC]
  simp (maxSteps := 1000000) (disch := omega) [eK57_0_0]
  simp only [R57_0_0, b57, Try.f57, Option.getD, fstC, sndC, bodyC, thnC, elsC]
  simp (maxSteps := 1000000) (disch := omega) [eK57_0_0]
theorem b57e (n : Nat) (cells : List AV) (σ : St) : exI TT (FI.of Try.f57 (TT.an 57)) [.code b57] (paramsE 0 [.lst n cells]) σ = exI TT (FI.of Try.f57 (TT.an 57)) K57_0 [(0, .lst n cells), (3, .int .i64 1)] σ := by
  rw [fi57]
  simp only [b57, Try.f57, Option.getD, fstC, sndC, bodyC, thnC, elsC]
  simp (maxSteps := 1000000) (disch := omega) [eK57_0_0]
  rfl
/-- The number of bits of a source, from i on; 0 for none. -/
def bitsF (l : List (Int × Int)) : Nat → Nat → Nat
  | 0, _ => 0
  | m + 1, i => if l.length = 2 ^ i ∧ isCh l = true then i else bitsF l m (i + 1)
def srcBits (l : List (Int × Int)) : Nat := bitsF l 4 1
theorem l57 (l : List (Int × Int)) (hs : l.length ≤ 10000000) (σ : St) : ∀ (m i : Nat), i + m = 5 → exI TT (FI.of Try.f57 (TT.an 57)) K57_0 [(0, FS l), (3, .int .i64 i)] σ = some (.int .i64 (bitsF l m i), σ) := by
  intro m
  induction m with
  | zero =>
    intro i hi
    obtain rfl : i = 5 := by omega
    exact e57 _ _ σ
  | succ m ih =>
    intro i hi
    have h := ih (i + 1) (by omega)
    have hi1 : ((i + 1 : Nat) : Int) = (i : Int) + 1 := by omega
    rw [hi1] at h
    have w1 := w64 (n := i) (by omega)
    have w2 := pow_sh i (by omega)
    have hw : wrapA .i64 ((i : Int) + 1) = (i : Int) + 1 := wrapA_id (by omega) (by omega)
    have ci := r74 l hs σ [FS l] rfl
    rw [bitsF]
    by_cases hp : l.length = 2 ^ i
    · cases hc : isCh l with
      | true =>
        rw [hc] at ci
        rw [if_pos ⟨hp, rfl⟩]
        exact s57t _ i _ _ σ (by omega) w1 w2 hp ci
      | false =>
        rw [hc] at ci
        rw [if_neg (by simp), ← h]
        exact s57f _ i _ _ σ (by omega) w1 w2 hp ci hw
    · rw [if_neg (fun h => hp h.1), ← h]
      exact s57n _ i _ _ σ (by omega) w1 w2 hp hw
theorem r57 (l : List (Int × Int)) (hs : l.length ≤ 10000000) : FnV TT 57 [FS l] (.int .i64 (srcBits l)) := by
  refine FnV.mk (c := b57) fn57 rfl md57 ⟨⟨[], 0⟩, ?_⟩ (fun _ => rfl) rfl
  exact (b57e _ _ _).trans (l57 l hs ⟨[], 0⟩ 4 1 rfl)
/-- A source. -/
def isSrc (l : List (Int × Int)) : Bool := decide (0 < srcBits l)

theorem r15 (l : List (Int × Int)) (hs : l.length ≤ 10000000) : FnV TT 15 [FS l] (.bool (isSrc l)) := by
  refine FnV.mk (c := Try.f15.body.getD .skip) fn15 rfl md15 (ex1 ?_) (fun _ => rfl) rfl
  have c1 := fun σ : St => r57 l hs σ [FS l] rfl
  unfold isSrc
  generalize srcBits l = b at *
  rw [fi15]
  simp only [Try.f15, Option.getD]
  unfold FS at *
  by_cases h : 0 < b
  · have h' : (0 : Int) < (b : Int) := by omega
    rw [decide_eq_true h]
    simp (maxSteps := 1000000) (disch := omega) [cellsAt, getCells, takeN, dropN, fieldAddrA, allOne, AV.one, n_push, storeCellsA, putN, overN, St.push, St.get, St.set, hget, hset, blt_dec, buildA, sizesOf, fillA, putCells, List.take_succ_cons, List.take_zero, List.drop_succ_cons, List.drop_zero, List.nil_append, List.cons_append, List.length_cons, List.length_nil, eqvs_dgs, c1]
  · have h' : (b : Int) ≤ 0 := by omega
    rw [decide_eq_false h]
    simp (maxSteps := 1000000) (disch := omega) [cellsAt, getCells, takeN, dropN, fieldAddrA, allOne, AV.one, n_push, storeCellsA, putN, overN, St.push, St.get, St.set, hget, hset, blt_dec, buildA, sizesOf, fillA, putCells, List.take_succ_cons, List.take_zero, List.drop_succ_cons, List.drop_zero, List.nil_append, List.cons_append, List.length_cons, List.length_nil, eqvs_dgs, c1]

theorem r174 (n d : Int) : FnV TT 174 [.agg [.int .i64 n, .int .i64 d]] (.bool (!vfr n d)) := by
  refine FnV.mk (c := Try.f174.body.getD .skip) fn174 rfl md174 (ex1 ?_) (fun _ => rfl) rfl
  have c1 := fun σ : St => v175 n d σ [.agg [.int .i64 n, .int .i64 d]] rfl
  rw [fi174]
  simp only [Try.f174, Option.getD]
  simp (maxSteps := 1000000) (disch := omega) [cellsAt, getCells, takeN, dropN, fieldAddrA, allOne, AV.one, n_push, storeCellsA, putN, overN, St.push, St.get, St.set, hget, hset, blt_dec, buildA, sizesOf, fillA, putCells, List.take_succ_cons, List.take_zero, List.drop_succ_cons, List.drop_zero, List.nil_append, List.cons_append, List.length_cons, List.length_nil, eqvs_dgs, c1]

noncomputable def b192 : Code := Try.f192.body.getD .skip
noncomputable def B192_0 : Code := (bodyC (bodyC (sndC (fstC (sndC b192)))))
noncomputable def K192_0 : List It := .lp B192_0 :: .blk 0 :: .code (sndC (sndC b192)) :: []
theorem xl192_0 {fi : FI} {env : Env} {σ : St} : exI TT fi K192_0 env σ = exI TT fi (.code B192_0 :: K192_0) env σ := by unfold K192_0; exact xI_lp
noncomputable def R192_0_0 : List It := .code (sndC (sndC b192)) :: []
theorem eK192_0_0 : exitA 0 K192_0 = some R192_0_0 := rfl
theorem s192t (n i : Nat) (cells x : List AV) (σ : St) (hi : i < n) (r1 : cellsAt σ (.lp cells (i * 2)) 2 = some x) (c1 : callI TT 174 [.agg x] σ = some (.bool true, σ)) :
    exI TT (FI.of Try.f192 (TT.an 192)) K192_0 [(0, .lst n cells), (1, .fn 174 [] []), (7, .int .i64 n), (8, .int .i64 i)] σ = some (.int .i64 i, σ) := by
  rw [fi192, xl192_0]
  simp only [B192_0, b192, Try.f192, Option.getD, fstC, sndC, bodyC, thnC, elsC]
  simp (maxSteps := 1000000) (disch := omega) [eK192_0_0, r1, c1, List.append_nil, List.nil_append]
theorem s192f (n i : Nat) (cells x : List AV) (σ : St) (hi : i < n) (r1 : cellsAt σ (.lp cells (i * 2)) 2 = some x) (c1 : callI TT 174 [.agg x] σ = some (.bool false, σ)) (hw : wrapA .i64 ((i : Int) + 1) = (i : Int) + 1) :
    exI TT (FI.of Try.f192 (TT.an 192)) K192_0 [(0, .lst n cells), (1, .fn 174 [] []), (7, .int .i64 n), (8, .int .i64 i)] σ = exI TT (FI.of Try.f192 (TT.an 192)) K192_0 [(0, .lst n cells), (1, .fn 174 [] []), (7, .int .i64 n), (8, .int .i64 ((i : Int) + 1))] σ := by
  rw [fi192]
  conv => lhs; rw [xl192_0]
  simp only [B192_0, b192, Try.f192, Option.getD, fstC, sndC, bodyC, thnC, elsC]
  simp (maxSteps := 1000000) (disch := omega) [eK192_0_0, r1, c1, hw, List.append_nil, List.nil_append]
theorem e192 (n : Nat) (cells : List AV) (σ : St) : exI TT (FI.of Try.f192 (TT.an 192)) K192_0 [(0, .lst n cells), (1, .fn 174 [] []), (7, .int .i64 n), (8, .int .i64 n)] σ = some (.int .i64 (-1), σ) := by
  rw [fi192, xl192_0]
  simp only [B192_0, b192, Try.f192, Option.getD, fstC, sndC, bodyC, thnC, elsC]
  simp (maxSteps := 1000000) (disch := omega) [eK192_0_0]
  simp only [R192_0_0, b192, Try.f192, Option.getD, fstC, sndC, bodyC, thnC, elsC]
  simp (maxSteps := 1000000) (disch := omega) [eK192_0_0]
theorem l192 (l : List (Int × Int)) (hs : l.length ≤ 10000000) (σ : St) : ∀ (m i : Nat), i + m = l.length → ∃ z : Int, exI TT (FI.of Try.f192 (TT.an 192)) K192_0 [(0, FS l), (1, .fn 174 [] []), (7, .int .i64 l.length), (8, .int .i64 i)] σ = some (.int .i64 z, σ) ∧ (0 ≤ z ↔ vfl (l.drop i) = false) := by
  intro m
  induction m with
  | zero =>
    intro i hi
    obtain rfl : i = l.length := by omega
    rw [List.drop_of_length_le (Nat.le_refl _)]
    exact ⟨-1, e192 l.length (flat FC l) σ, by simp [vfl]⟩
  | succ m ih =>
    intro i hi
    have hil : i < l.length := by omega
    have c1 := r174 l[i].1 l[i].2 σ [.agg (FC l[i])] rfl
    rw [List.drop_eq_getElem_cons hil]
    have hi1 : ((i + 1 : Nat) : Int) = (i : Int) + 1 := by omega
    cases hv : vfr l[i].1 l[i].2 with
    | true =>
      rw [hv] at c1
      obtain ⟨z, h1, h2⟩ := ih (i + 1) (by omega)
      rw [hi1] at h1
      have e : vfl (l[i] :: l.drop (i + 1)) = vfl (l.drop (i + 1)) := by unfold vfl; rw [List.all_cons, hv, Bool.true_and]
      refine ⟨z, ?_, by rw [e]; exact h2⟩
      rw [← h1]
      exact s192f l.length i (flat FC l) _ σ hil (FS_get hil σ) c1 (wrapA_id (by omega) (by omega))
    | false =>
      rw [hv] at c1
      have e : vfl (l[i] :: l.drop (i + 1)) = false := by unfold vfl; rw [List.all_cons, hv, Bool.false_and]
      exact ⟨i, s192t l.length i (flat FC l) _ σ hil (FS_get hil σ) c1, by rw [e]; simp⟩
theorem r192 (l : List (Int × Int)) (hs : l.length ≤ 10000000) (σ : St) : ∃ z : Int, callI TT 192 [FS l, .fn 174 [] []] σ = some (.int .i64 z, σ) ∧ (0 ≤ z ↔ vfl l = false) := by
  obtain ⟨z, h1, h2⟩ := l192 l hs σ l.length 0 (by omega)
  rw [List.drop_zero] at h2
  refine ⟨z, ?_, h2⟩
  rw [← h1, cI_0 fn192 rfl md192, fi192]
  unfold FS
  simp (maxSteps := 1000000) (disch := omega) [eK192_0_0]
  rfl

theorem r173 (l : List (Int × Int)) (hs : l.length ≤ 10000000) (σ : St) : callI TT 173 [FS l, .fn 174 [] []] σ = some (.bool (!vfl l), σ) := by
  obtain ⟨z, h1, h2⟩ := r192 l hs σ
  rw [cI_0 fn173 rfl md173, fi173]
  unfold FS at *
  cases hv : vfl l with
  | true =>
    have : z < 0 := by
      rw [hv] at h2
      refine Int.not_le.1 fun h => ?_
      have := h2.1 h
      cases this
    simp (maxSteps := 1000000) (disch := omega) [h1]
  | false =>
    have : 0 ≤ z := h2.2 hv
    simp (maxSteps := 1000000) (disch := omega) [h1]

theorem r132 (l : List (Int × Int)) (hs : l.length ≤ 10000000) : FnV TT 132 [FS l] (.bool (vfl l)) := by
  have c1 := r173 l hs
  refine FnV.mk (c := Try.f132.body.getD .skip) fn132 rfl md132 ⟨⟨[], 0⟩, ?_⟩ (fun _ => rfl) rfl
  rw [fi132]
  simp only [Try.f132, Option.getD]
  unfold FS at *
  simp (maxSteps := 1000000) (disch := omega) [c1]

noncomputable def b67 : Code := Try.f67.body.getD .skip
noncomputable def B67_0 : Code := (bodyC (bodyC (sndC (fstC (sndC (sndC (sndC b67)))))))
noncomputable def K67_0 : List It := .lp B67_0 :: .blk 0 :: .code (sndC (sndC (sndC (sndC b67)))) :: []
theorem xl67_0 {fi : FI} {env : Env} {σ : St} : exI TT fi K67_0 env σ = exI TT fi (.code B67_0 :: K67_0) env σ := by unfold K67_0; exact xI_lp
noncomputable def R67_0_0 : List It := .code (sndC (sndC (sndC (sndC b67)))) :: []
theorem eK67_0_0 : exitA 0 K67_0 = some R67_0_0 := rfl
def RC (q : Rat) : List AV := [.bool (ng q), NA (nm q), NA q.den]
theorem RC_one (q : Rat) : allOne (RC q) = true := rfl
theorem RC_eqv (q : Rat) : eqvs (RC q) (RC q) = true := by simp [RC, eqvs, AV.eqv, NA, eqvs_dgs]
set_option maxHeartbeats 1000000 in
theorem s67t (n i : Nat) (cells x s r t : List AV) (a : Int) (σ σ1 σ2 σ3 : St) (hi : i < n) (l1 : cellsAt σ (.lp cells (i * 2)) 2 = some x) (h2 : σ.push ⟨[.int .i64 0, .int .i64 0], 2, false⟩ = σ1) (hx : x.length = 2) (s1 : storeCellsA σ1 σ.n 0 x = some σ2) (l2 : cellsAt σ2 (.ptr σ.n 0) 1 = some [.int .i64 a]) (ha : 0 ≤ a) (l3 : cellsAt σ2 (.ptr 0 0) 3 = some s) (l4 : cellsAt σ2 (.ptr σ.n 0) 2 = some x)
    (c1 : callI TT 72 [.agg x] σ2 = some (.agg r, σ2)) (c2 : callI TT 85 [.agg s, .agg r] σ2 = some (.agg t, σ2)) (ht : t.length = 3) (s2 : storeCellsA σ2 0 0 t = some σ3) (hes : eqvs s s = true) (hw : wrapA .i64 ((i : Int) + 1) = (i : Int) + 1) :
    exI TT (FI.of Try.f67 (TT.an 67)) K67_0 [(3, .ptr 0 0), (16, .lst n cells), (17, .int .i64 n), (18, .int .i64 i)] σ = exI TT (FI.of Try.f67 (TT.an 67)) K67_0 [(3, .ptr 0 0), (16, .lst n cells), (17, .int .i64 n), (18, .int .i64 ((i : Int) + 1))] σ3 := by
  rw [fi67]
  conv => lhs; rw [xl67_0]
  simp only [B67_0, b67, Try.f67, Option.getD, fstC, sndC, bodyC, thnC, elsC]
  simp (maxSteps := 1000000) (disch := omega) [eK67_0_0, fieldAddrA, blt_dec, l1, h2, hx, s1, l2, l3, l4, c1, c2, ht, s2, hes, hw]
theorem s67f (n i : Nat) (cells x : List AV) (a : Int) (σ σ1 σ2 : St) (hi : i < n) (l1 : cellsAt σ (.lp cells (i * 2)) 2 = some x) (h2 : σ.push ⟨[.int .i64 0, .int .i64 0], 2, false⟩ = σ1) (hx : x.length = 2) (s1 : storeCellsA σ1 σ.n 0 x = some σ2) (l2 : cellsAt σ2 (.ptr σ.n 0) 1 = some [.int .i64 a]) (ha : a < 0) :
    exI TT (FI.of Try.f67 (TT.an 67)) K67_0 [(3, .ptr 0 0), (16, .lst n cells), (17, .int .i64 n), (18, .int .i64 i)] σ = some (.bool false, σ2) := by
  rw [fi67, xl67_0]
  simp only [B67_0, b67, Try.f67, Option.getD, fstC, sndC, bodyC, thnC, elsC]
  simp (maxSteps := 1000000) (disch := omega) [eK67_0_0, fieldAddrA, l1, h2, hx, s1, l2]
theorem e67 (n : Nat) (cells s o : List AV) (z : Int) (q : Bool) (σ : St) (l3 : cellsAt σ (.ptr 0 0) 3 = some s) (c1 : callI TT 84 [.int .i64 1] σ = some (.agg o, σ)) (c2 : callI TT 73 [.agg s, .agg o] σ = some (.int .i64 z, σ)) (hes : eqvs s s = true) (hq : decide (z = 0) = q) : exI TT (FI.of Try.f67 (TT.an 67)) K67_0 [(3, .ptr 0 0), (16, .lst n cells), (17, .int .i64 n), (18, .int .i64 n)] σ = some (.bool q, σ) := by
  subst hq
  rw [fi67, xl67_0]
  simp only [B67_0, b67, Try.f67, Option.getD, fstC, sndC, bodyC, thnC, elsC]
  simp (maxSteps := 1000000) (disch := omega) [eK67_0_0]
  simp only [R67_0_0, b67, Try.f67, Option.getD, fstC, sndC, bodyC, thnC, elsC]
  simp (maxSteps := 1000000) [-ieqb_t, -ieqb_f, -ieqb_self, eK67_0_0, takeN, dropN, fieldAddrA, allOne, AV.one, n_push, putN, overN, blt_dec, buildA, sizesOf, fillA, putCells, List.take_succ_cons, List.take_zero, List.drop_succ_cons, List.drop_zero, List.nil_append, List.cons_append, List.length_cons, List.length_nil, eqvs_dgs, l3, c1, c2, hes, ieqb_dec]
theorem b67f (n : Nat) (cells : List AV) (q1 q2 : Bool) (σ : St) (c0 : callI TT 130 [.lst n cells] σ = some (.int .i64 n, σ)) (c1 : callI TT 63 [.int .i64 n, .int .i64 1, .int .i64 16] σ = some (.bool q1, σ)) (c2 : callI TT 132 [.lst n cells] σ = some (.bool q2, σ)) (h : (q1 && q2) = false) : exI TT (FI.of Try.f67 (TT.an 67)) [.code b67] (paramsE 0 [.lst n cells]) σ = some (.bool false, σ) := by
  rw [fi67]
  simp only [b67, Try.f67, Option.getD, fstC, sndC, bodyC, thnC, elsC]
  cases q1 with
  | false =>
    simp (maxSteps := 1000000) (disch := omega) [eK67_0_0, c0, c1]
  | true => cases q2 with
    | true => exact absurd h (by decide)
    | false =>
      simp (maxSteps := 1000000) (disch := omega) [eK67_0_0, c0, c1, c2]
theorem b67t (n : Nat) (cells o : List AV) (σ1 : St) (c0 : callI TT 130 [.lst n cells] ⟨[], 0⟩ = some (.int .i64 n, ⟨[], 0⟩)) (c1 : callI TT 63 [.int .i64 n, .int .i64 1, .int .i64 16] ⟨[], 0⟩ = some (.bool true, ⟨[], 0⟩)) (c2 : callI TT 132 [.lst n cells] ⟨[], 0⟩ = some (.bool true, ⟨[], 0⟩)) (c3 : callI TT 84 [.int .i64 0] ⟨[], 0⟩ = some (.agg o, ⟨[], 0⟩)) (ho : o.length = 3) (s1 : storeCellsA ((⟨[], 0⟩ : St).push ⟨[.bool false, .nilS, .nilS], 3, false⟩) 0 0 o = some σ1) : exI TT (FI.of Try.f67 (TT.an 67)) [.code b67] (paramsE 0 [.lst n cells]) ⟨[], 0⟩ = exI TT (FI.of Try.f67 (TT.an 67)) K67_0 [(3, .ptr 0 0), (16, .lst n cells), (17, .int .i64 n), (18, .int .i64 0)] σ1 := by
  rw [fi67]
  simp only [b67, Try.f67, Option.getD, fstC, sndC, bodyC, thnC, elsC]
  simp (maxSteps := 1000000) (disch := omega) [eK67_0_0, c0, c1, c2, c3, ho, s1]
  rfl
theorem sumQ_succ (l : List (Int × Int)) (i : Nat) (h : i < l.length) : sumQ (l.take (i + 1)) = sumQ (l.take i) + rq l[i] := by
  rw [List.take_succ_eq_append_getElem h, sumQ, List.foldl_append]; rfl
theorem rq_bd {x : Int × Int} (h : vfr x.1 x.2 = true) : Bd 60 (rq x) := fits_bd (vfr_rat h).2.2
theorem l67 (l : List (Int × Int)) (hv : vfl l = true) (hs : l.length ≤ 16) : ∀ (m i : Nat) (σ : St), i + m = l.length → Bx σ 0 (RC (sumQ (l.take i))) → Bd (1 + i * 61) (sumQ (l.take i)) →
    ∃ σ', exI TT (FI.of Try.f67 (TT.an 67)) K67_0 [(3, .ptr 0 0), (16, FS l), (17, .int .i64 l.length), (18, .int .i64 i)] σ = some (.bool (((l.drop i).all fun x => decide (0 ≤ x.1)) && decide (sumQ l = 1)), σ') := by
  intro m
  induction m with
  | zero =>
    intro i σ hi hb hbd
    obtain rfl : i = l.length := by omega
    rw [List.take_of_length_le (Nat.le_refl _)] at hb hbd
    rw [List.drop_of_length_le (Nat.le_refl _)]
    have co := (r84 (n := 1) (by decide) (by decide)).pure σ rfl rfl
    have b1 : Bd (1 + l.length * 61) (mkRat 1 1) := (show Bd 1 (mkRat 1 1) from ⟨by decide, by decide⟩).mono (by omega)
    have cc := r73 hbd b1 (by omega) σ [RT (sumQ l), RT (mkRat 1 1)] rfl
    have e1 : decide (cmpR (sumQ l) (mkRat 1 1) = 0) = decide (sumQ l = 1) := by
      by_cases hh : sumQ l = 1
      · rw [decide_eq_true hh, decide_eq_true (show cmpR (sumQ l) (mkRat 1 1) = 0 from cmpR_zero.2 (by rw [hh]; rfl))]
      · rw [decide_eq_false hh, decide_eq_false (show ¬ cmpR (sumQ l) (mkRat 1 1) = 0 from fun h => hh ((cmpR_zero.1 h).trans rfl))]
    exact ⟨σ, e67 l.length (flat FC l) (RC (sumQ l)) _ _ _ σ (hb.rd rfl) co cc (RC_eqv _) e1⟩
  | succ m ih =>
    intro i σ hi hb hbd
    have hil : i < l.length := by omega
    have hvi : vfr l[i].1 l[i].2 = true := by
      simp only [vfl, List.all_eq_true] at hv
      exact hv _ (List.getElem_mem hil)
    have hx1 : Bx (σ.push ⟨[.int .i64 0, .int .i64 0], 2, false⟩) σ.n [.int .i64 0, .int .i64 0] := Bx.push
    obtain ⟨σ2, a1, a2, a3⟩ := hx1.st (ws := FC l[i]) rfl rfl
    have hlt := hb.lt
    have hb2 : Bx σ2 0 (RC (sumQ (l.take i))) := (hb.old Old.push).but (by omega) a3
    have l4 := a2.rd (n := 2) rfl
    have l2 : cellsAt σ2 (.ptr σ.n 0) 1 = some [.int .i64 l[i].1] := by
      obtain ⟨⟨mm, hg⟩, _⟩ := a2
      simp [cellsAt, hg, getCells, dropN, takeN, FC]
    rw [List.drop_eq_getElem_cons hil, List.all_cons]
    by_cases ha : 0 ≤ l[i].1
    · have c1 := (r72 hvi).pure σ2 rfl rfl
      have hrb := rq_bd hvi
      have c2 := (r85 (hbd.mono (show 1 + i * 61 ≤ 1 + i * 61 + 60 by omega)) (hrb.mono (show 60 ≤ 1 + i * 61 + 60 by omega)) (by omega)).pure σ2 rfl rfl
      have hsum : RT (sumQ (l.take i) + rq l[i]) = .agg (RC (sumQ (l.take (i + 1)))) := by rw [sumQ_succ l i hil]; rfl
      obtain ⟨σ3, d1, d2, d3⟩ := hb2.st (ws := RC (sumQ (l.take (i + 1)))) rfl (RC_one _)
      have hbd2 : Bd (1 + (i + 1) * 61) (sumQ (l.take (i + 1))) := by
        rw [sumQ_succ l i hil]
        exact (hbd.add hrb).mono (by omega)
      obtain ⟨σ', k1⟩ := ih (i + 1) σ3 (by omega) d2 hbd2
      have hi1 : ((i + 1 : Nat) : Int) = (i : Int) + 1 := by omega
      rw [hi1] at k1
      refine ⟨σ', ?_⟩
      rw [decide_eq_true ha, Bool.true_and, ← k1]
      exact s67t l.length i (flat FC l) (FC l[i]) _ _ _ _ σ _ σ2 σ3 hil (FS_get hil σ) rfl rfl a1 l2 ha (hb2.rd rfl) l4 c1 (c2.trans (by rw [hsum])) rfl d1 (RC_eqv _) (wrapA_id (by omega) (by omega))
    · rw [decide_eq_false ha]
      exact ⟨σ2, s67f l.length i (flat FC l) (FC l[i]) _ σ _ σ2 hil (FS_get hil σ) rfl rfl a1 l2 (by omega)⟩
theorem r67 (l : List (Int × Int)) (hs : l.length ≤ 10000000) : FnV TT 67 [FS l] (.bool (isCh l)) := by
  have c0 := v130 l ⟨[], 0⟩ [FS l] rfl
  have c1 := v63 l.length 1 16 ⟨[], 0⟩ [.int .i64 l.length, .int .i64 1, .int .i64 16] rfl
  have c2 := r132 l hs ⟨[], 0⟩ [FS l] rfl
  by_cases h : 1 ≤ l.length ∧ l.length ≤ 16 ∧ vfl l = true
  · obtain ⟨h1, h2, h3⟩ := h
    rw [decide_eq_true (by omega), decide_eq_true (by omega)] at c1
    rw [h3] at c2
    have c3 := (r84 (n := 0) (by decide) (by decide)).pure ⟨[], 0⟩ rfl rfl
    have hb0 : Bx ((⟨[], 0⟩ : St).push ⟨[.bool false, .nilS, .nilS], 3, false⟩) 0 [.bool false, .nilS, .nilS] := Bx.push
    obtain ⟨σ1, a1, a2, a3⟩ := hb0.st (ws := RC 0) rfl (RC_one _)
    obtain ⟨σ', k1⟩ := l67 l h3 h2 l.length 0 σ1 (by omega) (by rw [List.take_zero]; exact a2) (by rw [List.take_zero]; exact ⟨by decide, by decide⟩)
    rw [List.drop_zero] at k1
    have e2 : isCh l = ((l.all fun x => decide (0 ≤ x.1)) && decide (sumQ l = 1)) := by
      unfold isCh; rw [decide_eq_true h1, decide_eq_true h2, h3]; rfl
    rw [e2]
    exact FnV.mk (c := b67) fn67 rfl md67 ⟨σ', (b67t l.length (flat FC l) (RC 0) σ1 c0 c1 c2 c3 rfl a1).trans k1⟩ (fun _ => rfl) rfl
  · have e2 : isCh l = false := by
      cases hx : isCh l with
      | false => rfl
      | true =>
        simp only [isCh, Bool.and_eq_true, decide_eq_true_eq] at hx
        exact absurd ⟨hx.1.1, hx.1.2, hx.2.1⟩ h
    rw [e2]
    refine FnV.mk (c := b67) fn67 rfl md67 ⟨⟨[], 0⟩, b67f l.length (flat FC l) _ _ _ c0 c1 c2 ?_⟩ (fun _ => rfl) rfl
    cases hq : (decide (1 ≤ (l.length : Int)) && decide ((l.length : Int) ≤ 16)) with
    | false => rfl
    | true =>
      cases hv : vfl l with
      | false => rfl
      | true =>
        simp only [Bool.and_eq_true, decide_eq_true_eq] at hq
        exact absurd ⟨by omega, by omega, hv⟩ h

set_option maxHeartbeats 2000000 in
theorem k59 (n : Nat) (cells : List AV) (d : Int) (q : Bool) (P : Int) (res : Bool) (c0 : ∀ σ, callI TT 130 [.lst n cells] σ = some (.int .i64 n, σ)) (c1 : ∀ σ, callI TT 129 [.int .i64 n] σ = some (.int .i64 d, σ)) (c2 : ∀ σ, callI TT 67 [.lst n cells] σ = some (.bool q, σ)) (hP : q = true → 1 ≤ d → wrapA .i64 (shlA 1 (min d.toNat IntKind.i64.bits)) = P) (hr : (q && (decide (1 ≤ d) && decide ((n : Int) = P))) = res) :
    ∃ σ1, exI TT (FI.of Try.f59 (TT.an 59)) [.code (Try.f59.body.getD .skip)] (paramsE 0 [.lst n cells]) ⟨[], 0⟩ = some (.tup [.int .i64 d, .bool res], σ1) := by
  refine ex1 ?_
  rw [fi59]
  simp only [Try.f59, Option.getD]
  cases q with
  | false =>
    subst hr
    simp (maxSteps := 1000000) (disch := omega) [cellsAt, getCells, takeN, dropN, fieldAddrA, allOne, AV.one, n_push, storeCellsA, putN, overN, St.push, St.get, St.set, hget, hset, blt_dec, buildA, sizesOf, fillA, putCells, List.take_succ_cons, List.take_zero, List.drop_succ_cons, List.drop_zero, List.nil_append, List.cons_append, List.length_cons, List.length_nil, eqvs_dgs, c0, c1, c2]
  | true =>
    by_cases h1 : 1 ≤ d
    · have hP := hP rfl h1
      have h0 : 0 ≤ d := by omega
      rw [decide_eq_true h1] at hr
      by_cases h2 : (n : Int) = P
      · rw [decide_eq_true h2] at hr
        subst hr
        subst h2
        simp (maxSteps := 1000000) (disch := omega) [cellsAt, getCells, takeN, dropN, fieldAddrA, allOne, AV.one, n_push, storeCellsA, putN, overN, St.push, St.get, St.set, hget, hset, blt_dec, buildA, sizesOf, fillA, putCells, List.take_succ_cons, List.take_zero, List.drop_succ_cons, List.drop_zero, List.nil_append, List.cons_append, List.length_cons, List.length_nil, eqvs_dgs, c0, c1, c2, hP]
      · rw [decide_eq_false h2] at hr
        subst hr
        simp (maxSteps := 1000000) (disch := omega) [cellsAt, getCells, takeN, dropN, fieldAddrA, allOne, AV.one, n_push, storeCellsA, putN, overN, St.push, St.get, St.set, hget, hset, blt_dec, buildA, sizesOf, fillA, putCells, List.take_succ_cons, List.take_zero, List.drop_succ_cons, List.drop_zero, List.nil_append, List.cons_append, List.length_cons, List.length_nil, eqvs_dgs, c0, c1, c2, hP, h2]
    · rw [decide_eq_false h1] at hr
      subst hr
      simp (maxSteps := 1000000) (disch := omega) [cellsAt, getCells, takeN, dropN, fieldAddrA, allOne, AV.one, n_push, storeCellsA, putN, overN, St.push, St.get, St.set, hget, hset, blt_dec, buildA, sizesOf, fillA, putCells, List.take_succ_cons, List.take_zero, List.drop_succ_cons, List.drop_zero, List.nil_append, List.cons_append, List.length_cons, List.length_nil, eqvs_dgs, c0, c1, c2]
theorem src_tab : ((List.range 17).all fun n => (n == 0) || ((decide (n = 2) || decide (n = 4) || decide (n = 8) || decide (n = 16)) == (decide (1 ≤ ((bl n : Nat) : Int) - 1) && decide (n = 2 ^ (bl n - 1)))) && decide (bl n ≤ 5)) = true := by decide +kernel
theorem isSrc_eq (l : List (Int × Int)) : isSrc l = (isCh l && (decide (l.length = 2) || decide (l.length = 4) || decide (l.length = 8) || decide (l.length = 16))) := by
  unfold isSrc srcBits
  cases hc : isCh l with
  | false => simp [bitsF, hc]
  | true =>
    simp only [bitsF, hc, and_true, Bool.true_and]
    by_cases h2 : l.length = 2 <;> by_cases h4 : l.length = 4 <;> by_cases h8 : l.length = 8 <;> by_cases h16 : l.length = 16 <;> simp [h2, h4, h8, h16] <;> omega
theorem r59 (l : List (Int × Int)) (hs : l.length ≤ 10000000) : FnV TT 59 [FS l] (.tup [.int .i64 ((bl l.length : Int) - 1), .bool (isSrc l)]) := by
  refine FnV.mk fn59 rfl md59 (k59 l.length (flat FC l) ((bl l.length : Int) - 1) (isCh l) ((2 ^ (bl l.length - 1) : Nat) : Int) (isSrc l) (fun σ => v130 l σ [FS l] rfl) (fun σ => v129 l.length (by omega) σ _ rfl) (fun σ => r67 l hs σ [FS l] rfl) (fun h1 h2 => ?_) ?_) (fun _ => rfl) rfl
  · have hb := bl_le (x := l.length) (k := 30) (by omega)
    rw [show ((bl l.length : Int) - 1).toNat = bl l.length - 1 by omega]
    exact pow_sh _ (by omega)
  · rw [isSrc_eq]
    cases hc : isCh l with
    | false => rfl
    | true =>
      have h12 : 1 ≤ l.length ∧ l.length ≤ 16 := by
        simp only [isCh, Bool.and_eq_true, decide_eq_true_eq] at hc; exact hc.1
      have ht := src_tab
      rw [List.all_eq_true] at ht
      have ht := ht l.length (List.mem_range.2 (by omega))
      have h0 : (l.length == 0) = false := by simp; intro h; rw [h] at h12; simp at h12
      rw [h0, Bool.false_or, Bool.and_eq_true, beq_iff_eq] at ht
      rw [ht.1]
      have hcast : decide ((l.length : Int) = ((2 ^ (bl l.length - 1) : Nat) : Int)) = decide (l.length = 2 ^ (bl l.length - 1)) := by
        generalize 2 ^ (bl l.length - 1) = P
        by_cases h : l.length = P
        · rw [decide_eq_true h, decide_eq_true (by omega)]
        · rw [decide_eq_false h, decide_eq_false (by omega)]
      rw [hcast]

theorem r17 (l : List (Int × Int)) (hs : l.length ≤ 10000000) : FnV TT 17 [FS l] (.bool (isSrc l)) := by
  refine FnV.mk (c := Try.f17.body.getD .skip) fn17 rfl md17 (ex1 ?_) (fun _ => rfl) rfl
  have c1 := fun σ : St => r59 l hs σ [FS l] rfl
  generalize isSrc l = b at *
  generalize (bl l.length : Int) - 1 = d at *
  rw [fi17]
  simp only [Try.f17, Option.getD]
  unfold FS at *
  simp (maxSteps := 1000000) (disch := omega) [cellsAt, getCells, takeN, dropN, fieldAddrA, allOne, AV.one, n_push, storeCellsA, putN, overN, St.push, St.get, St.set, hget, hset, blt_dec, buildA, sizesOf, fillA, putCells, List.take_succ_cons, List.take_zero, List.drop_succ_cons, List.drop_zero, List.nil_append, List.cons_append, List.length_cons, List.length_nil, eqvs_dgs, c1]

theorem r58 (a b : Int) : FnV TT 58 [.agg [.int .i64 a, .int .i64 b]] (.agg [.int .i64 a, .int .i64 b]) := by
  refine FnV.mk (c := Try.f58.body.getD .skip) fn58 rfl md58 (ex1 ?_) (fun _ => rfl) rfl
  rw [fi58]
  simp only [Try.f58, Option.getD]
  simp (maxSteps := 1000000) (disch := omega) [cellsAt, getCells, takeN, dropN, fieldAddrA, allOne, AV.one, n_push, storeCellsA, putN, overN, St.push, St.get, St.set, hget, hset, blt_dec, buildA, sizesOf, fillA, putCells, List.take_succ_cons, List.take_zero, List.drop_succ_cons, List.drop_zero, List.nil_append, List.cons_append, List.length_cons, List.length_nil, eqvs_dgs]

theorem r14 (l : List (Int × Int)) (k : Nat) (hk : k ≤ 1048576) (hl : l.length ≤ 9223372036854775807) : FnV TT 14 [FS l, .int .i64 k] (.int .i64 (if k < l.length then -1 else (k : Int) - l.length)) := by
  refine FnV.mk (c := Try.f14.body.getD .skip) fn14 rfl md14 (ex1 ?_) (fun _ => rfl) rfl
  unfold FS
  generalize l.length = n at *
  obtain ⟨z, hz⟩ : ∃ z : Int, (k : Int) - (n : Int) = z := ⟨_, rfl⟩
  have hw : wrapA .i64 ((k : Int) - (n : Int)) = z := by rw [← hz]; exact wrapA_id (by omega) (by omega)
  rw [hz]
  rw [fi14]
  simp only [Try.f14, Option.getD]
  by_cases h : k < n
  · have h1 : z < 0 := by omega
    rw [if_pos h]
    clear hz
    simp (maxSteps := 1000000) (disch := omega) [cellsAt, getCells, takeN, dropN, fieldAddrA, allOne, AV.one, n_push, storeCellsA, putN, overN, St.push, St.get, St.set, hget, hset, blt_dec, buildA, sizesOf, fillA, putCells, List.take_succ_cons, List.take_zero, List.drop_succ_cons, List.drop_zero, List.nil_append, List.cons_append, List.length_cons, List.length_nil, eqvs_dgs, hw]
  · have h1 : 0 ≤ z := by omega
    rw [if_neg h]
    clear hz
    simp (maxSteps := 1000000) (disch := omega) [cellsAt, getCells, takeN, dropN, fieldAddrA, allOne, AV.one, n_push, storeCellsA, putN, overN, St.push, St.get, St.set, hget, hset, blt_dec, buildA, sizesOf, fillA, putCells, List.take_succ_cons, List.take_zero, List.drop_succ_cons, List.drop_zero, List.nil_append, List.cons_append, List.length_cons, List.length_nil, eqvs_dgs, hw]

noncomputable def b16 : Code := Try.f16.body.getD .skip
noncomputable def B16_0 : Code := (bodyC (bodyC (sndC (fstC (sndC (sndC b16))))))
noncomputable def K16_0 : List It := .lp B16_0 :: .blk 0 :: .code (sndC (sndC (sndC b16))) :: []
theorem xl16_0 {fi : FI} {env : Env} {σ : St} : exI TT fi K16_0 env σ = exI TT fi (.code B16_0 :: K16_0) env σ := by unfold K16_0; exact xI_lp
noncomputable def R16_0_0 : List It := .code (sndC (sndC (sndC b16))) :: []
theorem eK16_0_0 : exitA 0 K16_0 = some R16_0_0 := rfl
theorem s16 (n b i : Nat) (cells x : List AV) (σ σ1 : St) (hi : i < n) (r1 : cellsAt σ (.lp cells (i * 2)) 2 = some x) (c1 : callI TT 58 [.agg x] σ = some (.agg x, σ)) (hx : x.length = 2) (s1 : storeCellsA σ b (i * 2) x = some σ1) (hw : wrapA .i64 ((i : Int) + 1) = (i : Int) + 1) :
    exI TT (FI.of Try.f16 (TT.an 16)) K16_0 [(0, .lst n cells), (3, .sl b 0 n n), (4, .int .i64 i)] σ = exI TT (FI.of Try.f16 (TT.an 16)) K16_0 [(0, .lst n cells), (3, .sl b 0 n n), (4, .int .i64 ((i : Int) + 1))] σ1 := by
  rw [fi16]
  conv => lhs; rw [xl16_0]
  simp only [B16_0, b16, Try.f16, Option.getD, fstC, sndC, bodyC, thnC, elsC]
  simp (maxSteps := 1000000) (disch := omega) [eK16_0_0, r1, c1, hx, s1, hw]
theorem e16 (n b : Nat) (cells : List AV) (σ : St) : exI TT (FI.of Try.f16 (TT.an 16)) K16_0 [(0, .lst n cells), (3, .sl b 0 n n), (4, .int .i64 n)] σ = some (.sl b 0 n n, σ) := by
  rw [fi16, xl16_0]
  simp only [B16_0, b16, Try.f16, Option.getD, fstC, sndC, bodyC, thnC, elsC]
  simp (maxSteps := 1000000) (disch := omega) [eK16_0_0]
  simp only [R16_0_0, b16, Try.f16, Option.getD, fstC, sndC, bodyC, thnC, elsC]
  simp (maxSteps := 1000000) (disch := omega) [eK16_0_0]
theorem b16e (n : Nat) (cells : List AV) (σ1 : St) (c1 : makeSliceA TT ⟨[], 0⟩ 25 (.int .i64 n) (.int .i64 n) = some (.sl 0 0 n n, σ1)) : exI TT (FI.of Try.f16 (TT.an 16)) [.code b16] (paramsE 0 [.lst n cells]) ⟨[], 0⟩ = exI TT (FI.of Try.f16 (TT.an 16)) K16_0 [(0, .lst n cells), (3, .sl 0 0 n n), (4, .int .i64 0)] σ1 := by
  rw [fi16]
  simp only [b16, Try.f16, Option.getD, fstC, sndC, bodyC, thnC, elsC]
  simp (maxSteps := 1000000) (disch := omega) [eK16_0_0, c1]
  rfl
theorem put_el {pre z w suf : List AV} (hz : z.length = w.length) : putCells (pre ++ (z ++ suf)) pre.length w = pre ++ (w ++ suf) := by
  unfold putCells
  rw [List.take_left' rfl, ← List.drop_drop, List.drop_left, ← hz, List.drop_left, List.append_assoc]
theorem make_el {T : Tab} {σ : St} {st e : TypeId} {k : TK} {es y n : Nat} {z : List AV} (ht : T.ty st = some ⟨.slice e, 1, 24, [.nilS]⟩) (he : T.ty e = some ⟨k, es, y, z⟩) (hy : y ≤ 100) (hn : n ≤ 100000000000) :
    makeSliceA T σ st (.int .i64 n) (.int .i64 n) = some (.sl σ.n 0 n n, σ.push ⟨repeatCells z n, es, false⟩) := by
  unfold makeSliceA
  simp only [ht, he]
  have h1 : (n : Int) * (y : Int) ≤ 140737488355328 := by
    have : n * y ≤ 100000000000 * 100 := Nat.mul_le_mul hn hy
    rw [← Int.natCast_mul]; omega
  rw [if_pos ⟨by omega, by omega, h1, by omega⟩]
  simp
theorem l16 (l : List (Int × Int)) (hs : l.length ≤ 10000000) (b : Nat) : ∀ (m i : Nat) (σ : St), i + m = l.length → RowE σ b 2 (flat FC (l.take i) ++ repeatCells [.int .i64 0, .int .i64 0] m) →
    ∃ σ', exI TT (FI.of Try.f16 (TT.an 16)) K16_0 [(0, FS l), (3, .sl b 0 l.length l.length), (4, .int .i64 i)] σ = some (.sl b 0 l.length l.length, σ') ∧ RowE σ' b 2 (flat FC l) := by
  intro m
  induction m with
  | zero =>
    intro i σ hi hr
    obtain rfl : i = l.length := by omega
    rw [List.take_of_length_le (Nat.le_refl _), repeatCells, List.append_nil] at hr
    exact ⟨σ, e16 l.length b (flat FC l) σ, hr⟩
  | succ m ih =>
    intro i σ hi hr
    have hil : i < l.length := by omega
    have hpl : (flat FC (l.take i)).length = i * 2 := by rw [flat_len FC_len, List.length_take, Nat.min_eq_left (by omega)]
    obtain ⟨σ1, a1, a2, _⟩ := hr.st (i := i * 2) (ws := FC l[i]) (by rw [List.length_append, hpl, repeatCells, List.length_append]; simp [FC]) rfl
    rw [repeatCells, ← hpl, put_el (by rfl), ← List.append_assoc] at a2
    have e : flat FC (l.take i) ++ FC l[i] = flat FC (l.take (i + 1)) := by rw [List.take_succ_eq_append_getElem hil, flat_app]; simp [flat]
    rw [e] at a2
    obtain ⟨σ', k1, k2⟩ := ih (i + 1) σ1 (by omega) a2
    refine ⟨σ', ?_, k2⟩
    rw [← k1]
    have hi1 : ((i + 1 : Nat) : Int) = (i : Int) + 1 := by omega
    rw [hi1]
    exact s16 l.length b i (flat FC l) (FC l[i]) σ σ1 hil (FS_get hil σ) (r58 _ _ σ _ rfl) rfl a1 (wrapA_id (by omega) (by omega))
theorem FC_frz (σ : St) (d : Nat) (x : Int × Int) : mapO (frzV σ (d + 1)) (FC x) = some (FC x) := rfl
theorem r16 (l : List (Int × Int)) (hs : l.length ≤ 10000000) : FnF TT 16 [FS l] (FS l) := by
  have hm := make_el (T := TT) (σ := ⟨[], 0⟩) (st := 25) (n := l.length) ty25 ty41 (by decide) (by omega)
  obtain ⟨σ', k1, k2⟩ := l16 l hs 0 l.length 0 _ (by omega) (RowE.push (σ := ⟨[], 0⟩) (cs := repeatCells [.int .i64 0, .int .i64 0] l.length) (e := 2) (o := false))
  refine FnF.mk (c := b16) fn16 rfl md16 ⟨σ', _, (b16e _ _ _ hm).trans k1, ?_⟩
  exact k2.frz (d := 4) (by rw [flat_len FC_len]) (flat_frz (fun v => FC_frz σ' 4 v) _) (Nat.le_refl _)

theorem r26 (a b : Int) : FnV TT 26 [.agg [.int .i64 a, .int .i64 b], .agg [.int .i64 a, .int .i64 b]] (.bool true) := by
  refine FnV.mk (c := Try.f26.body.getD .skip) fn26 rfl md26 (ex1 ?_) (fun _ => rfl) rfl
  rw [fi26]
  simp only [Try.f26, Option.getD]
  simp (maxSteps := 1000000) (disch := omega) [cellsAt, getCells, takeN, dropN, fieldAddrA, allOne, AV.one, n_push, storeCellsA, putN, overN, St.push, St.get, St.set, hget, hset, blt_dec, buildA, sizesOf, fillA, putCells, List.take_succ_cons, List.take_zero, List.drop_succ_cons, List.drop_zero, List.nil_append, List.cons_append, List.length_cons, List.length_nil, eqvs_dgs]

noncomputable def b18 : Code := Try.f18.body.getD .skip
noncomputable def B18_0 : Code := (bodyC (bodyC (sndC (fstC (sndC (sndC b18))))))
noncomputable def K18_0 : List It := .lp B18_0 :: .blk 0 :: .code (sndC (sndC (sndC b18))) :: []
theorem xl18_0 {fi : FI} {env : Env} {σ : St} : exI TT fi K18_0 env σ = exI TT fi (.code B18_0 :: K18_0) env σ := by unfold K18_0; exact xI_lp
noncomputable def R18_0_0 : List It := .code (sndC (sndC (sndC b18))) :: []
theorem eK18_0_0 : exitA 0 K18_0 = some R18_0_0 := rfl
theorem s18 (n i : Nat) (cells x : List AV) (σ : St) (hi : i < n) (r1 : cellsAt σ (.lp cells (i * 2)) 2 = some x) (c1 : callI TT 26 [.agg x, .agg x] σ = some (.bool true, σ)) (hw : wrapA .i64 ((i : Int) + 1) = (i : Int) + 1) :
    exI TT (FI.of Try.f18 (TT.an 18)) K18_0 [(0, .lst n cells), (1, .lst n cells), (5, .int .i64 i)] σ = exI TT (FI.of Try.f18 (TT.an 18)) K18_0 [(0, .lst n cells), (1, .lst n cells), (5, .int .i64 ((i : Int) + 1))] σ := by
  rw [fi18]
  conv => lhs; rw [xl18_0]
  simp only [B18_0, b18, Try.f18, Option.getD, fstC, sndC, bodyC, thnC, elsC]
  simp (maxSteps := 1000000) (disch := omega) [eK18_0_0, r1, c1, hw]
theorem e18 (n : Nat) (cells : List AV) (σ : St) : exI TT (FI.of Try.f18 (TT.an 18)) K18_0 [(0, .lst n cells), (1, .lst n cells), (5, .int .i64 n)] σ = some (.bool true, σ) := by
  rw [fi18, xl18_0]
  simp only [B18_0, b18, Try.f18, Option.getD, fstC, sndC, bodyC, thnC, elsC]
  simp (maxSteps := 1000000) (disch := omega) [eK18_0_0]
  simp only [R18_0_0, b18, Try.f18, Option.getD, fstC, sndC, bodyC, thnC, elsC]
  simp (maxSteps := 1000000) (disch := omega) [eK18_0_0]
theorem l18 (l : List (Int × Int)) (hs : l.length ≤ 10000000) (σ : St) : ∀ (m i : Nat), i + m = l.length → exI TT (FI.of Try.f18 (TT.an 18)) K18_0 [(0, FS l), (1, FS l), (5, .int .i64 i)] σ = some (.bool true, σ) := by
  intro m
  induction m with
  | zero =>
    intro i hi
    obtain rfl : i = l.length := by omega
    exact e18 _ _ σ
  | succ m ih =>
    intro i hi
    have hil : i < l.length := by omega
    have h := ih (i + 1) (by omega)
    have hi1 : ((i + 1 : Nat) : Int) = (i : Int) + 1 := by omega
    rw [hi1] at h
    rw [← h]
    exact s18 l.length i (flat FC l) (FC l[i]) σ hil (FS_get hil σ) (r26 _ _ σ _ rfl) (wrapA_id (by omega) (by omega))
theorem r18 (l : List (Int × Int)) (hs : l.length ≤ 10000000) : FnV TT 18 [FS l, FS l] (.bool true) := by
  have h := l18 l hs ⟨[], 0⟩ l.length 0 (by omega)
  refine FnV.mk (c := b18) fn18 rfl md18 ⟨⟨[], 0⟩, ?_⟩ (fun _ => rfl) rfl
  rw [← h, fi18]
  unfold FS
  simp only [b18, Try.f18, Option.getD, fstC, sndC, bodyC, thnC, elsC]
  simp (maxSteps := 1000000) (disch := omega) [eK18_0_0]
  rfl
theorem fits_frs {a : AV} (h : Fit (.sl [.int .i64, .int .i64]) a) : ∃ l : List (Int × Int), a = FS l ∧ l.length ≤ maxLen := by
  simp only [Fit] at h
  obtain ⟨rows, rfl, hm, h⟩ := h
  have : ∀ rows : List (List AV), (∀ r ∈ rows, Fits [.int .i64, .int .i64] r) → ∃ l : List (Int × Int), l.length = rows.length ∧ rows.flatten = flat FC l := by
    intro rows
    induction rows with
    | nil => intro _; exact ⟨[], rfl, rfl⟩
    | cons r t ih =>
      intro h
      obtain ⟨l, h1, h2⟩ := ih fun y hy => h y (by simp [hy])
      have h4 := h r (by simp)
      simp only [Fits, Fit] at h4
      obtain ⟨_, _, rfl, ⟨a, rfl, ha⟩, _, _, rfl, ⟨b, rfl, hb⟩, rfl⟩ := h4
      exact ⟨(a, b) :: l, by simp [h1], by simp [h2, flat, FC]⟩
  obtain ⟨l, h1, h2⟩ := this rows h
  exact ⟨l, by rw [FS, h1, h2], by omega⟩

theorem b3 (n : Nat) (cells : List AV) (h : 1048576 < n) (c1 : ∀ σ, callI TT 14 [.lst n cells, .int .i64 1048576] σ = some (.int .i64 (-1), σ)) : ∃ σ1, exI TT (FI.of Try.f3 (TT.an 3)) [.code (Try.f3.body.getD .skip)] (paramsE 0 [.lst n cells]) ⟨[], 0⟩ = some (.bool true, σ1) := by
  refine ex1 ?_
  rw [fi3]
  simp only [Try.f3, Option.getD]
  simp (maxSteps := 1000000) (disch := omega) [cellsAt, getCells, takeN, dropN, fieldAddrA, allOne, AV.one, n_push, storeCellsA, putN, overN, St.push, St.get, St.set, hget, hset, blt_dec, buildA, sizesOf, fillA, putCells, List.take_succ_cons, List.take_zero, List.drop_succ_cons, List.drop_zero, List.nil_append, List.cons_append, List.length_cons, List.length_nil, eqvs_dgs, c1]
theorem k3 (n : Nat) (cells : List AV) (k : Nat) (q : Bool) (c1 : ∀ σ, callI TT 14 [.lst n cells, .int .i64 1048576] σ = some (.int .i64 k, σ)) (c2 : ∀ σ, callI TT 16 [.lst n cells] σ = some (.lst n cells, σ)) (c3 : ∀ σ, callI TT 15 [.lst n cells] σ = some (.bool q, σ)) (c4 : ∀ σ, callI TT 17 [.lst n cells] σ = some (.bool q, σ)) (c5 : ∀ σ, callI TT 18 [.lst n cells, .lst n cells] σ = some (.bool true, σ)) : ∃ σ1, exI TT (FI.of Try.f3 (TT.an 3)) [.code (Try.f3.body.getD .skip)] (paramsE 0 [.lst n cells]) ⟨[], 0⟩ = some (.bool true, σ1) := by
  have hk : (0 : Int) ≤ (k : Int) := by omega
  refine ex1 ?_
  rw [fi3]
  simp only [Try.f3, Option.getD]
  cases q <;>
  simp (maxSteps := 1000000) (disch := omega) [cellsAt, getCells, takeN, dropN, fieldAddrA, allOne, AV.one, n_push, storeCellsA, putN, overN, St.push, St.get, St.set, hget, hset, blt_dec, buildA, sizesOf, fillA, putCells, List.take_succ_cons, List.take_zero, List.drop_succ_cons, List.drop_zero, List.nil_append, List.cons_append, List.length_cons, List.length_nil, eqvs_dgs, c1, c2, c3, c4, c5]
theorem w3 (l : List (Int × Int)) (hl : l.length ≤ maxLen) : FnV TT 3 [FS l] (.bool true) := by
  have hm : l.length ≤ 9223372036854775807 := by unfold maxLen at hl; omega
  have c1 := fun σ : St => r14 l 1048576 (Nat.le_refl _) hm σ [FS l, .int .i64 1048576] rfl
  by_cases hbig : 1048576 < l.length
  · rw [if_pos hbig] at c1
    exact FnV.mk fn3 rfl md3 (b3 _ _ hbig c1) (fun _ => rfl) rfl
  · rw [if_neg hbig] at c1
    have e : ((1048576 : Nat) : Int) - (l.length : Int) = ((1048576 - l.length : Nat) : Int) := by omega
    rw [e] at c1
    have hs : l.length ≤ 10000000 := by omega
    exact FnV.mk fn3 rfl md3 (k3 _ _ _ _ c1 (fun σ => (r16 l hs).pure σ rfl rfl) (fun σ => r15 l hs σ [FS l] rfl) (fun σ => r17 l hs σ [FS l] rfl) (fun σ => r18 l hs σ [FS l, FS l] rfl)) (fun _ => rfl) rfl

end Go.Proofs.Ytihoeimlkbjgmaa
