/- Contracts and laws: steps and jumps of machines. Nothing is claimed here; no condition. -/
import Derived.Test.YtonnbgjbohbibaaEg
namespace Go.Proofs.Ytonnbgjbohbibaa
open Go Go.Abs
set_option linter.unusedSimpArgs false
set_option linter.unusedVariables false
open Go.Wd
theorem lin_eq (w : Int) (R : List Int) (o : Int) : lin w R o = [.int .i64 w, .lst R.length (ints R), .int .i64 o] := rfl
def nats (R : List Int) : List Nat := R.map Int.toNat
theorem nats_nints (A : List Nat) : nats (nints A) = A := by
  induction A with
  | nil => rfl
  | cons x r ih => simp only [nats, nints, List.map_cons] at ih ⊢; rw [ih]; simp
/-- The state after a step, and the output. -/
def st1 (w : Int) (R : List Int) (o s : Int) : Int := if vst w R o s = true then (app (nats R) s.toNat : Nat) else 0
def st2 (w : Int) (R : List Int) (o s : Int) : Int := if vst w R o s = true then (par (andN o.toNat s.toNat) : Nat) else 0
theorem st1_yes {A : List Nat} {k t : Nat} (h : vst (A.length : Int) (nints A) k t = true) : st1 (A.length : Int) (nints A) k t = (app A t : Nat) := by simp [st1, h, nats_nints]
theorem st2_yes {A : List Nat} {k t : Nat} (h : vst (A.length : Int) (nints A) k t = true) : st2 (A.length : Int) (nints A) k t = (par (andN k t) : Nat) := by simp [st2, h]
theorem st1_no {w : Int} {R : List Int} {o s : Int} (h : vst w R o s = false) : st1 w R o s = 0 := by simp [st1, h]
theorem st2_no {w : Int} {R : List Int} {o s : Int} (h : vst w R o s = false) : st2 w R o s = 0 := by simp [st2, h]
theorem lt_16 {A : List Nat} {r : Nat} (h : A.length ≤ 16) (hr : r < pw A.length) : r < 65536 := Nat.lt_of_lt_of_le hr (pw_16 h)
theorem vst_nat' {w : Int} {R : List Int} {o s : Int} (h : vst w R o s = true) : ∃ (A : List Nat) (k t : Nat), w = (A.length : Int) ∧ R = nints A ∧ o = (k : Int) ∧ s = (t : Int) ∧ 1 ≤ A.length ∧ A.length ≤ 16 ∧ (∀ r ∈ A, r < 65536) ∧ k < 65536 ∧ t < 65536 ∧ t < pw A.length := by
  obtain ⟨A, k, t, h1, h2, h3, h4, h5, h6, h7, h8, h9⟩ := vst_nat h
  exact ⟨A, k, t, h1, h2, h3, h4, h5, h6, fun r hr => lt_16 h6 (h7 r hr), lt_16 h6 h8, lt_16 h6 h9, h9⟩

theorem c97 (A : List Nat) (k t : Nat) (h16 : A.length ≤ 16) (hA : ∀ r ∈ A, r < 65536) (hk : k < 65536) (ht : t < 65536) (σ : St) (b : Nat) (x : Blk) (hb : σ.get b = some x) (hx : x.cells = lin A.length (nints A) k) :
    callI TT 97 [.ptr b 0, .int .i64 t] σ = some (.tup [.int .i64 (app A t : Nat), .int .i64 (par (andN k t) : Nat)], σ) := by
  rw [lin_eq] at hx
  have hcp1 : cellsAt σ (.ptr b 1) 1 = some [.lst A.length (ints (nints A))] := by simp [cellsAt, hb, hx, getCells, takeN, dropN, nints_length]
  have hcp2 : cellsAt σ (.ptr b 2) 1 = some [.int .i64 k] := by simp [cellsAt, hb, hx, getCells, takeN, dropN]
  have h1 : callI TT 108 [.lst A.length (ints (nints A)), .int .i64 t] σ = some (.int .i64 (app A t : Nat), σ) := v108 A hA h16 t (pow_62 ht) σ _ rfl
  have h2 := n_and (a := k) (b := t) (by omega) (by omega)
  have hle : andN k t ≤ k := Nat.and_le_left
  have h3 : callI TT 135 [.int .i64 (andN k t : Nat)] σ = some (.int .i64 (par (andN k t) : Nat), σ) := v135 (andN k t) (by omega) σ _ rfl
  rw [cI_0 fn97 rfl md97, fi97]
  simp [xI_seq, xI_region, xI_ret, regA, regOps, runOps, opStep, wantedA, opA, evo, evos, calleeA, lk, nif_eq, putE, paramsE, valS, val2, keepE, restrict, finA, resA, binA, binInt, ofConst, ofConst1, loadA, TK.isAgg, asVar, unA, builtinA, lenOpA, lenA, ileb_cast, ileb_eq, ieqb_dec, indexAddrA, inB_dec, evPairs, storeA, AV.cellsOf, pairsOf, xI_nil, binBool, gcE, evOpt, xI_block, xI_loopH, xI_condM, xI_exitM, xI_skip, xI_blk, exitA, ty2, ty33, ty41, fieldAddrA, allOne, AV.one, n_push, ty2, ty33, ty38, ty41, runTr, pairsOk, pairOk, lstAt, lastOf, sameVal, AV.eqv, eqvs, eqvs_ints, regOps, blt_dec, cond_true, cond_false, hcp1, hcp2, h1, h2, h3]

theorem v53 (w : Int) (R : List Int) (o s : Int) (hs : R.length < 1000000000000) : FnV TT 53 [.agg (lin w R o), .int .i64 s] (.tup [.int .i64 (st1 w R o s), .int .i64 (st2 w R o s), .bool (vst w R o s)]) := by
  refine FnV.mk fn53 rfl md53 ⟨(⟨[], 0⟩ : St).push ⟨lin w R o, 3, false⟩, ?_⟩ (fun _ => rfl) rfl
  generalize hσ : (⟨[], 0⟩ : St).push ⟨lin w R o, 3, false⟩ = σ
  have hg : σ.get 0 = some ⟨lin w R o, 3, false⟩ := by subst hσ; rfl
  have h := c96 w R o s hs σ 0 _ hg rfl
  rw [fi53]
  cases h1 : vst w R o s with
  | false =>
    rw [h1] at h
    rw [st1_no h1, st2_no h1]
    simp only [lin] at hσ ⊢
    simp [xI_seq, xI_region, xI_ret, regA, regOps, runOps, opStep, wantedA, opA, evo, evos, calleeA, lk, nif_eq, putE, paramsE, valS, val2, keepE, restrict, finA, resA, binA, binInt, ofConst, ofConst1, loadA, TK.isAgg, asVar, unA, builtinA, lenOpA, lenA, ileb_cast, ileb_eq, ieqb_dec, indexAddrA, inB_dec, evPairs, storeA, AV.cellsOf, pairsOf, xI_nil, binBool, gcE, evOpt, xI_block, xI_loopH, xI_condM, xI_exitM, xI_skip, xI_blk, exitA, ty4, ty41, fieldAddrA, allOne, AV.one, n_push, ty2, ty33, ty38, ty41, hσ, h]
  | true =>
    rw [h1] at h
    obtain ⟨A, k, t, rfl, rfl, rfl, rfl, h2, h3, h4, h5, h6, _⟩ := vst_nat' h1
    have hc := c97 A k t h3 h4 h5 h6 σ 0 _ hg rfl
    rw [st1_yes h1, st2_yes h1]
    simp only [lin] at hσ ⊢
    simp [xI_seq, xI_region, xI_ret, regA, regOps, runOps, opStep, wantedA, opA, evo, evos, calleeA, lk, nif_eq, putE, paramsE, valS, val2, keepE, restrict, finA, resA, binA, binInt, ofConst, ofConst1, loadA, TK.isAgg, asVar, unA, builtinA, lenOpA, lenA, ileb_cast, ileb_eq, ieqb_dec, indexAddrA, inB_dec, evPairs, storeA, AV.cellsOf, pairsOf, xI_nil, binBool, gcE, evOpt, xI_block, xI_loopH, xI_condM, xI_exitM, xI_skip, xI_blk, exitA, ty4, ty41, fieldAddrA, allOne, AV.one, n_push, ty2, ty33, ty38, ty41, hσ, h, hc]

theorem v54 (w : Int) (R : List Int) (o s : Int) (hs : R.length < 3000000) : FnV TT 54 [.agg (lin w R o), .int .i64 s] (.tup [.int .i64 (st1 w R o s), .int .i64 (st2 w R o s), .bool (vst w R o s)]) := by
  refine FnV.mk fn54 rfl md54 ⟨(⟨[], 0⟩ : St).push ⟨lin w R o, 3, false⟩, ?_⟩ (fun _ => rfl) rfl
  generalize hσ : (⟨[], 0⟩ : St).push ⟨lin w R o, 3, false⟩ = σ
  have hcp3 : cellsAt σ (.ptr 0 0) 3 = some [.int .i64 w, .lst R.length (ints R), .int .i64 o] := by subst hσ; rfl
  have hcp1 : cellsAt σ (.ptr 0 1) 1 = some [.lst R.length (ints R)] := by subst hσ; rfl
  have hcp2 : cellsAt σ (.ptr 0 2) 1 = some [.int .i64 o] := by subst hσ; rfl
  have h : callI TT 98 [.agg [.int .i64 w, .lst R.length (ints R), .int .i64 o], .int .i64 s] σ = some (.bool (vst w R o s), σ) := v98 w R o s hs σ _ rfl
  rw [fi54]
  cases h1 : vst w R o s with
  | false =>
    rw [h1] at h
    rw [st1_no h1, st2_no h1]
    simp only [lin] at hσ ⊢
    simp [xI_seq, xI_region, xI_ret, regA, regOps, runOps, opStep, wantedA, opA, evo, evos, calleeA, lk, nif_eq, putE, paramsE, valS, val2, keepE, restrict, finA, resA, binA, binInt, ofConst, ofConst1, loadA, TK.isAgg, asVar, unA, builtinA, lenOpA, lenA, ileb_cast, ileb_eq, ieqb_dec, indexAddrA, inB_dec, evPairs, storeA, AV.cellsOf, pairsOf, xI_nil, binBool, gcE, evOpt, xI_block, xI_loopH, xI_condM, xI_exitM, xI_skip, xI_blk, exitA, ty2, ty4, ty33, ty41, fieldAddrA, allOne, AV.one, n_push, ty2, ty33, ty38, ty41, hσ, hcp3, h]
  | true =>
    rw [h1] at h
    obtain ⟨A, k, t, rfl, rfl, rfl, rfl, h2, h3, h4, h5, h6, _⟩ := vst_nat' h1
    have e1 : callI TT 99 [.lst A.length (ints (nints A)), .int .i64 t] σ = some (.int .i64 (app A t : Nat), σ) := v99 A h4 h3 t (pow_62 h6) σ _ rfl
    have e2 := n_and (a := k) (b := t) (by omega) (by omega)
    have hle : andN k t ≤ k := Nat.and_le_left
    have e3 := c100 (andN k t) (by omega) σ
    rw [st1_yes h1, st2_yes h1]
    simp only [nints_length] at *
    simp only [lin, nints_length] at hσ ⊢
    simp [xI_seq, xI_region, xI_ret, regA, regOps, runOps, opStep, wantedA, opA, evo, evos, calleeA, lk, nif_eq, putE, paramsE, valS, val2, keepE, restrict, finA, resA, binA, binInt, ofConst, ofConst1, loadA, TK.isAgg, asVar, unA, builtinA, lenOpA, lenA, ileb_cast, ileb_eq, ieqb_dec, indexAddrA, inB_dec, evPairs, storeA, AV.cellsOf, pairsOf, xI_nil, binBool, gcE, evOpt, xI_block, xI_loopH, xI_condM, xI_exitM, xI_skip, xI_blk, exitA, ty2, ty4, ty33, ty41, fieldAddrA, allOne, AV.one, n_push, ty2, ty33, ty38, ty41, runTr, pairsOk, pairOk, lstAt, lastOf, sameVal, AV.eqv, eqvs, eqvs_ints, regOps, blt_dec, cond_true, cond_false, hσ, hcp3, hcp1, hcp2, h, e1, e2, e3]

set_option maxHeartbeats 1000000 in
theorem w12 (w : Int) (l : List Int) (o : Int) (s : Int) (hn0 : l.length ≤ 9223372036854775807) : FnV TT 12 [.agg (lin w l o), .int .i64 s] (.bool true) := by
  refine FnV.mk fn12 rfl md12 ?_ (fun _ => rfl) rfl
  rw [fi12]
  have hsz : ∀ σ : St, callI TT 30 [.agg (lin w l o), .int .i64 1048576] σ = some (.int .i64 (if l.length ≤ 1048576 then (1048576 : Int) - l.length else -1), σ) := fun σ => v30 w l o 1048576 hn0 (by decide) σ _ rfl
  by_cases hbig : l.length ≤ 1048576
  · have hl : l.length < 3000000 := by omega
    have hn : l.length < 1000000000000 := by omega
    have hto : ∀ σ : St, callI TT 32 [.agg (lin w l o)] σ = some (.agg (lin w l o), σ) := fun σ => tol32 w l o hn σ _ rfl rfl
    have heq : ∀ σ : St, callI TT 34 [.agg (lin w l o), .agg (lin w l o)] σ = some (.bool true, σ) := fun σ => v34 w l o hn σ _ rfl
    have hS : ∀ σ : St, callI TT 53 [.agg (lin w l o), .int .i64 s] σ = some (.tup [.int .i64 (st1 w l o s), .int .i64 (st2 w l o s), .bool (vst w l o s)], σ) := fun σ => v53 w l o s hn σ _ rfl
    have hI : ∀ σ : St, callI TT 54 [.agg (lin w l o), .int .i64 s] σ = some (.tup [.int .i64 (st1 w l o s), .int .i64 (st2 w l o s), .bool (vst w l o s)], σ) := fun σ => v54 w l o s hl σ _ rfl
    have h1 : ¬ ((1048576 : Int) - l.length < 0) := by omega
    have h2 : ¬ ((1048576 : Int) < l.length) := by omega
    simp only [if_pos hbig] at hsz
    simp only [lin] at hsz hto heq hS hI ⊢
    simp [xI_seq, xI_region, xI_ret, regA, regOps, runOps, opStep, wantedA, opA, evo, evos, calleeA, lk, nif_eq, putE, paramsE, valS, val2, keepE, restrict, finA, resA, binA, binInt, ofConst, ofConst1, loadA, TK.isAgg, asVar, unA, builtinA, lenOpA, lenA, ileb_cast, ileb_eq, ieqb_dec, indexAddrA, inB_dec, evPairs, storeA, AV.cellsOf, pairsOf, xI_nil, binBool, gcE, evOpt, xI_block, xI_loopH, xI_condM, xI_exitM, xI_skip, xI_blk, exitA, ty2, ty3, ty4, ty38, ty41, cellsAt, getCells, takeN, dropN, fieldAddrA, allOne, AV.one, n_push, storeCellsA, putN, overN, ty2, ty33, ty38, ty41, St.push, St.get, St.set, hget, hset, runTr, pairsOk, pairOk, lstAt, lastOf, sameVal, AV.eqv, eqvs, eqvs_ints, regOps, blt_dec, cond_true, cond_false, hsz, hto, heq, hS, hI, h1, h2]
  · simp only [if_neg hbig] at hsz
    simp only [lin] at hsz ⊢
    simp [xI_seq, xI_region, xI_ret, regA, regOps, runOps, opStep, wantedA, opA, evo, evos, calleeA, lk, nif_eq, putE, paramsE, valS, val2, keepE, restrict, finA, resA, binA, binInt, ofConst, ofConst1, loadA, TK.isAgg, asVar, unA, builtinA, lenOpA, lenA, ileb_cast, ileb_eq, ieqb_dec, indexAddrA, inB_dec, evPairs, storeA, AV.cellsOf, pairsOf, xI_nil, binBool, gcE, evOpt, xI_block, xI_loopH, xI_condM, xI_exitM, xI_skip, xI_blk, exitA, ty2, ty3, ty4, ty38, ty41, cellsAt, getCells, takeN, dropN, fieldAddrA, allOne, AV.one, n_push, storeCellsA, putN, overN, ty2, ty33, ty38, ty41, St.push, St.get, St.set, hget, hset, runTr, pairsOk, pairOk, lstAt, lastOf, sameVal, AV.eqv, eqvs, eqvs_ints, regOps, blt_dec, cond_true, cond_false, hsz]

end Go.Proofs.Ytonnbgjbohbibaa
