/- Contracts and law: machines of registers. Nothing is claimed here; no condition. -/
import Derived.Test.YtonnbgjbohbibaaEj
namespace Go.Proofs.Ytonnbgjbohbibaa
open Go Go.Abs
set_option linter.unusedSimpArgs false
set_option linter.unusedVariables false
open Go.Wd
theorem v34n : FnV TT 34 [.agg [.int .i64 0, .nilS, .int .i64 0], .agg [.int .i64 0, .nilS, .int .i64 0]] (.bool true) := by
  have hc : ∀ σ : St, callI TT 44 [.nilS, .nilS] σ = some (.bool true, σ) := fun σ => v44n σ _ rfl
  refine FnV.mk fn34 rfl md34 ?_ (fun _ => rfl) rfl
  rw [fi34]
  simp [xI_seq, xI_region, xI_ret, regA, regOps, runOps, opStep, wantedA, opA, evo, evos, calleeA, lk, nif_eq, putE, paramsE, valS, val2, keepE, restrict, finA, resA, binA, binInt, ofConst, ofConst1, loadA, TK.isAgg, asVar, unA, builtinA, lenOpA, lenA, ileb_cast, ileb_eq, ieqb_dec, indexAddrA, inB_dec, evPairs, storeA, AV.cellsOf, pairsOf, xI_nil, binBool, gcE, evOpt, xI_block, xI_loopH, xI_condM, xI_exitM, xI_skip, xI_blk, exitA, ty2, ty4, ty33, ty41, cellsAt, getCells, takeN, dropN, fieldAddrA, allOne, AV.one, n_push, storeCellsA, putN, overN, ty2, ty33, ty38, ty41, St.push, St.get, St.set, hget, hset, hc]
theorem m38 (σ : St) (b n k : Nat) (w o : Int) (l : List Int) (hn : n = l.length) (hs : n < 1000000) (hk : k < 1000000) (hr : Row σ b l) :
    ∃ σ', callI TT 38 [.agg [.int .i64 w, .sl b 0 n n, .int .i64 o], .int .i64 k] σ = some (.int .i64 (k + n : Nat), σ') ∧ Row σ' b (iotaF k n) ∧ σ'.n = σ.n + 1 ∧ ∀ c, c ≠ b → c < σ.n → σ'.get c = σ.get c := by
  have hb := hr.lt
  obtain ⟨σ1, hσ⟩ : ∃ σ1, σ.push ⟨[.int .i64 w, .sl b 0 n n, .int .i64 o], 3, false⟩ = σ1 := ⟨_, rfl⟩
  have hr1 : Row σ1 b l := by subst hσ; exact hr.pushed
  obtain ⟨σ', c1, r1, u1⟩ := m45 σ1 b n k l hn (by omega) (by omega) hr1
  have hcp : cellsAt σ1 (.ptr σ.n 1) 1 = some [.sl b 0 n n] := by subst hσ; simp [cellsAt, get_push_same, getCells, takeN, dropN]
  refine ⟨σ', ?_, r1, by rw [u1.1]; subst hσ; rfl, fun c hc hcn => (u1.2 c hc).trans (by subst hσ; exact get_push_lt hcn)⟩
  rw [cI_0 fn38 rfl md38, fi38]
  simp [xI_seq, xI_region, xI_ret, regA, regOps, runOps, opStep, wantedA, opA, evo, evos, calleeA, lk, nif_eq, putE, paramsE, valS, val2, keepE, restrict, finA, resA, binA, binInt, ofConst, ofConst1, loadA, TK.isAgg, asVar, unA, builtinA, lenOpA, lenA, ileb_cast, ileb_eq, ieqb_dec, indexAddrA, inB_dec, evPairs, storeA, AV.cellsOf, pairsOf, xI_nil, binBool, gcE, evOpt, xI_block, xI_loopH, xI_condM, xI_exitM, xI_skip, xI_blk, exitA, ty2, ty33, ty41, fieldAddrA, allOne, AV.one, ty2, ty33, ty41, hσ, hcp, c1]
theorem m38n (σ : St) (k : Nat) : callI TT 38 [.agg [.int .i64 0, .nilS, .int .i64 0], .int .i64 k] σ = some (.int .i64 k, σ.push ⟨[.int .i64 0, .nilS, .int .i64 0], 3, false⟩) := by
  obtain ⟨σ1, hσ⟩ : ∃ σ1, σ.push ⟨[.int .i64 0, .nilS, .int .i64 0], 3, false⟩ = σ1 := ⟨_, rfl⟩
  have c1 := m45n σ1 k
  have hcp : cellsAt σ1 (.ptr σ.n 1) 1 = some [.nilS] := by subst hσ; simp [cellsAt, get_push_same, getCells, takeN, dropN]
  rw [cI_0 fn38 rfl md38, fi38, hσ]
  simp [xI_seq, xI_region, xI_ret, regA, regOps, runOps, opStep, wantedA, opA, evo, evos, calleeA, lk, nif_eq, putE, paramsE, valS, val2, keepE, restrict, finA, resA, binA, binInt, ofConst, ofConst1, loadA, TK.isAgg, asVar, unA, builtinA, lenOpA, lenA, ileb_cast, ileb_eq, ieqb_dec, indexAddrA, inB_dec, evPairs, storeA, AV.cellsOf, pairsOf, xI_nil, binBool, gcE, evOpt, xI_block, xI_loopH, xI_condM, xI_exitM, xI_skip, xI_blk, exitA, ty2, ty33, ty41, fieldAddrA, allOne, AV.one, ty2, ty33, ty41, hσ, hcp, c1]
theorem v39 (w o : Int) (n k : Nat) (hs : n < 1000000) (hk : k < 1000000) : FnV TT 39 [.agg [.int .i64 w, .lst n (ints (iotaF k n)), .int .i64 o], .int .i64 k] (.int .i64 (k + n : Nat)) := by
  have hc : ∀ σ : St, callI TT 46 [.lst n (ints (iotaF k n)), .int .i64 k] σ = some (.int .i64 (k + n : Nat), σ) := fun σ => v46 n k (by omega) (by omega) σ _ rfl
  have h1 : ¬ (((k + n : Nat) : Int) < 0) := by omega
  generalize ((k + n : Nat) : Int) = z at *
  have h2 : 0 ≤ z := by omega
  refine FnV.mk fn39 rfl md39 ?_ (fun _ => rfl) rfl
  rw [fi39]
  simp [xI_seq, xI_region, xI_ret, regA, regOps, runOps, opStep, wantedA, opA, evo, evos, calleeA, lk, nif_eq, putE, paramsE, valS, val2, keepE, restrict, finA, resA, binA, binInt, ofConst, ofConst1, loadA, TK.isAgg, asVar, unA, builtinA, lenOpA, lenA, ileb_cast, ileb_eq, ieqb_dec, indexAddrA, inB_dec, evPairs, storeA, AV.cellsOf, pairsOf, xI_nil, binBool, gcE, evOpt, xI_block, xI_loopH, xI_condM, xI_exitM, xI_skip, xI_blk, exitA, ty2, ty3, ty33, ty41, cellsAt, getCells, takeN, dropN, fieldAddrA, allOne, AV.one, n_push, storeCellsA, putN, overN, ty2, ty33, ty38, ty41, St.push, St.get, St.set, hget, hset, hc, h1, h2]
theorem v39n (k : Nat) : FnV TT 39 [.agg [.int .i64 0, .nilS, .int .i64 0], .int .i64 k] (.int .i64 k) := by
  have hc : ∀ σ : St, callI TT 46 [.nilS, .int .i64 k] σ = some (.int .i64 k, σ) := fun σ => v46n k σ _ rfl
  have h1 : ¬ ((k : Int) < 0) := by omega
  refine FnV.mk fn39 rfl md39 ?_ (fun _ => rfl) rfl
  rw [fi39]
  simp [xI_seq, xI_region, xI_ret, regA, regOps, runOps, opStep, wantedA, opA, evo, evos, calleeA, lk, nif_eq, putE, paramsE, valS, val2, keepE, restrict, finA, resA, binA, binInt, ofConst, ofConst1, loadA, TK.isAgg, asVar, unA, builtinA, lenOpA, lenA, ileb_cast, ileb_eq, ieqb_dec, indexAddrA, inB_dec, evPairs, storeA, AV.cellsOf, pairsOf, xI_nil, binBool, gcE, evOpt, xI_block, xI_loopH, xI_condM, xI_exitM, xI_skip, xI_blk, exitA, ty2, ty3, ty33, ty41, cellsAt, getCells, takeN, dropN, fieldAddrA, allOne, AV.one, n_push, storeCellsA, putN, overN, ty2, ty33, ty38, ty41, St.push, St.get, St.set, hget, hset, hc, h1]
/-- A function that hands over a machine of its own. -/
def linR (r : Option (Int × List Int × Int)) (σ : St) (q : Bool) : AV × St :=
  match r with
  | some (w, l, o) => (.tup [.agg [.int .i64 w, .sl σ.n 0 l.length l.length, .int .i64 o], .bool true], σ.push ⟨ints l, 1, q⟩)
  | none => (.tup [.agg [.int .i64 0, .nilS, .int .i64 0], .bool false], σ)
def FnM (T : Tab) (f : FuncId) (args' : List AV) (r : Option (Int × List Int × Int)) : Prop := ∀ (σ : St) (args : List AV), mapO (frzV σ frzDepth) args = some args' → ∃ q, callI T f args σ = some (linR r σ q)
theorem FnM.mkS {T : Tab} {f : FuncId} {F : Func} {c : Code} {args' : List AV} {l : List Int} {w o : Int} (hF : T.fn f = Option.some F) (hB : F.body = Option.some c) (hm : (T.an f).mode = 2)
    (hx : ∃ σ1 b q, exI T (FI.of F (T.an f)) [.code c] (paramsE 0 args') ⟨[], 0⟩ = Option.some (.tup [.agg [.int .i64 w, .sl b 0 l.length l.length, .int .i64 o], .bool true], σ1) ∧ σ1.get b = Option.some ⟨ints l, 1, q⟩) : FnM T f args' (Option.some (w, l, o)) := by
  intro σ args ha
  obtain ⟨σ1, b, q, hx, hb⟩ := hx
  refine ⟨q, cI_2 hF hB hm ha hx ?_⟩
  have h1 : ownL (ownV σ1 5) σ [] [.int .i64 w, .sl b 0 l.length l.length, .int .i64 o] = some ([.int .i64 w, .sl σ.n 0 l.length l.length, .int .i64 o], σ.push ⟨ints l, 1, q⟩, [b]) := by
    have h0 : ∀ (x : Int) (σ : St) (u : List Nat), ownV σ1 5 σ u (.int .i64 x) = some (.int .i64 x, σ, u) := fun _ _ _ => rfl
    simp only [ownL, h0, own1_ints (d := 3) (used := []) hb rfl]
  have h2 : ownV σ1 6 σ [] (.agg [.int .i64 w, .sl b 0 l.length l.length, .int .i64 o]) = some (.agg [.int .i64 w, .sl σ.n 0 l.length l.length, .int .i64 o], σ.push ⟨ints l, 1, q⟩, [b]) := by
    unfold ownV; simp only [h1]
  unfold ownR
  simp only [ownL, ownDepth, h2]
  rfl
theorem FnM.mkN {T : Tab} {f : FuncId} {F : Func} {c : Code} {args' : List AV} (hF : T.fn f = Option.some F) (hB : F.body = Option.some c) (hm : (T.an f).mode = 2)
    (hx : ∃ σ1, exI T (FI.of F (T.an f)) [.code c] (paramsE 0 args') ⟨[], 0⟩ = Option.some (.tup [.agg [.int .i64 0, .nilS, .int .i64 0], .bool false], σ1)) : FnM T f args' Option.none := by
  intro σ args ha
  obtain ⟨σ1, hx⟩ := hx
  exact ⟨false, cI_2 hF hB hm ha hx rfl⟩
theorem FnM.row {T : Tab} {f : FuncId} {args' args : List AV} {l : List Int} {w o : Int} (h : FnM T f args' (Option.some (w, l, o))) {σ : St} (ha : mapO (frzV σ frzDepth) args = some args') :
    ∃ σ', callI T f args σ = some (.tup [.agg [.int .i64 w, .sl σ.n 0 l.length l.length, .int .i64 o], .bool true], σ') ∧ Row σ' σ.n l ∧ Old σ σ' ∧ σ'.n = σ.n + 1 := by
  obtain ⟨q, h⟩ := h σ args ha
  exact ⟨_, h, Row.push, Old.push, rfl⟩
theorem FnM.nil {T : Tab} {f : FuncId} {args' args : List AV} (h : FnM T f args' Option.none) {σ : St} (ha : mapO (frzV σ frzDepth) args = some args') : callI T f args σ = some (.tup [.agg [.int .i64 0, .nilS, .int .i64 0], .bool false], σ) := by
  obtain ⟨q, h⟩ := h σ args ha
  exact h
/-- A value laid in a cell of its own. -/
theorem boxed (σ : St) (a b c x y z : AV) (h : allOne [x, y, z] = true) : ∃ σ', storeCellsA (σ.push ⟨[a, b, c], 3, false⟩) σ.n 0 [x, y, z] = some σ' ∧ σ'.n = σ.n + 1 ∧ cellsAt σ' (.ptr σ.n 0) 3 = some [x, y, z] ∧ Old σ σ' := by
  refine ⟨(σ.push ⟨[a, b, c], 3, false⟩).set σ.n ⟨[x, y, z], 3, false⟩, ?_, rfl, ?_, ?_⟩
  · simp [storeCellsA, get_push_same, h, putN, overN]
  · simp [cellsAt, get_set_eq (get_push_same), getCells, takeN, dropN]
  · refine ⟨Nat.le_succ _, fun c hc => ?_⟩
    rw [get_set_ne (by omega), get_push_lt hc]
theorem cells_old {σ σ' : St} {b o n : Nat} {v : List AV} (hb : b < σ.n) (h : cellsAt σ (.ptr b o) n = some v) (k : Old σ σ') : cellsAt σ' (.ptr b o) n = some v := by
  simp only [cellsAt] at h ⊢
  rw [k.2 b hb]; exact h

theorem v36 (w t : Int) : FnV TT 36 [.agg [.int .i64 w, .int .i64 t]] (.agg [.int .i64 w, .int .i64 t]) := by
  refine FnV.mk fn36 rfl md36 ?_ (fun _ => rfl) rfl
  rw [fi36]
  simp [xI_seq, xI_region, xI_ret, regA, regOps, runOps, opStep, wantedA, opA, evo, evos, calleeA, lk, nif_eq, putE, paramsE, valS, val2, keepE, restrict, finA, resA, binA, binInt, ofConst, ofConst1, loadA, TK.isAgg, asVar, unA, builtinA, lenOpA, lenA, ileb_cast, ileb_eq, ieqb_dec, indexAddrA, inB_dec, evPairs, storeA, AV.cellsOf, pairsOf, xI_nil, binBool, gcE, evOpt, xI_block, xI_loopH, xI_condM, xI_exitM, xI_skip, xI_blk, exitA, ty2, ty46, ty49, cellsAt, getCells, takeN, dropN, fieldAddrA, allOne, AV.one, n_push, storeCellsA, putN, overN, ty2, ty33, ty38, ty41, St.push, St.get, St.set, hget, hset, ty46, ty49]
def vreg (w t : Int) : Bool := inR w 0 16 && inR t 0 (((pw w.toNat : Nat) : Int) - 1)

theorem c84 (w t : Int) (σ : St) (b : Nat) (x : Blk) (hb : σ.get b = some x) (hx : x.cells = [.int .i64 w, .int .i64 t]) : callI TT 84 [.ptr b 0] σ = some (.bool (vreg w t), σ) := by
  have hcp : cellsAt σ (.ptr b 0) 1 = some [.int .i64 w] := by simp [cellsAt, hb, hx, getCells, takeN, dropN]
  have hcp1 : cellsAt σ (.ptr b 1) 1 = some [.int .i64 t] := by simp [cellsAt, hb, hx, getCells, takeN, dropN]
  have hi := c88 w 0 16 σ
  rw [cI_0 fn84 rfl md84, fi84]
  cases h1 : inR w 0 16 with
  | false =>
    rw [h1] at hi
    simp [xI_seq, xI_region, xI_ret, regA, regOps, runOps, opStep, wantedA, opA, evo, evos, calleeA, lk, nif_eq, putE, paramsE, valS, val2, keepE, restrict, finA, resA, binA, binInt, ofConst, ofConst1, loadA, TK.isAgg, asVar, unA, builtinA, lenOpA, lenA, ileb_cast, ileb_eq, ieqb_dec, indexAddrA, inB_dec, evPairs, storeA, AV.cellsOf, pairsOf, xI_nil, binBool, gcE, evOpt, xI_block, xI_loopH, xI_condM, xI_exitM, xI_skip, xI_blk, exitA, ty2, ty49, runTr, pairsOk, pairOk, lstAt, lastOf, sameVal, AV.eqv, eqvs, eqvs_ints, regOps, blt_dec, cond_true, cond_false, fieldAddrA, ty2, ty49, hcp, hcp1, hi]
    simp [vreg, h1]
  | true =>
    rw [h1] at hi
    have h1' := inR_iff.1 h1
    obtain ⟨k, rfl⟩ : ∃ k : Nat, w = k := ⟨w.toNat, by omega⟩
    have hc := c127 k (by omega) t σ
    simp [xI_seq, xI_region, xI_ret, regA, regOps, runOps, opStep, wantedA, opA, evo, evos, calleeA, lk, nif_eq, putE, paramsE, valS, val2, keepE, restrict, finA, resA, binA, binInt, ofConst, ofConst1, loadA, TK.isAgg, asVar, unA, builtinA, lenOpA, lenA, ileb_cast, ileb_eq, ieqb_dec, indexAddrA, inB_dec, evPairs, storeA, AV.cellsOf, pairsOf, xI_nil, binBool, gcE, evOpt, xI_block, xI_loopH, xI_condM, xI_exitM, xI_skip, xI_blk, exitA, ty2, ty49, runTr, pairsOk, pairOk, lstAt, lastOf, sameVal, AV.eqv, eqvs, eqvs_ints, regOps, blt_dec, cond_true, cond_false, fieldAddrA, ty2, ty49, hcp, hcp1, hi, hc]
    simp [vreg, h1]

theorem v85 (w t : Int) : FnV TT 85 [.agg [.int .i64 w, .int .i64 t]] (.bool (vreg w t)) := by
  refine FnV.mk fn85 rfl md85 ?_ (fun _ => rfl) rfl
  obtain ⟨σ, hσ⟩ : ∃ σ, (⟨[], 0⟩ : St).push ⟨[.int .i64 w, .int .i64 t], 2, false⟩ = σ := ⟨_, rfl⟩
  have hcp : cellsAt σ (.ptr 0 0) 1 = some [.int .i64 w] := by subst hσ; rfl
  have hcp1 : cellsAt σ (.ptr 0 1) 1 = some [.int .i64 t] := by subst hσ; rfl
  have hi := c80 w 0 16 σ
  rw [fi85]
  cases h1 : inR w 0 16 with
  | false =>
    rw [h1] at hi
    simp [xI_seq, xI_region, xI_ret, regA, regOps, runOps, opStep, wantedA, opA, evo, evos, calleeA, lk, nif_eq, putE, paramsE, valS, val2, keepE, restrict, finA, resA, binA, binInt, ofConst, ofConst1, loadA, TK.isAgg, asVar, unA, builtinA, lenOpA, lenA, ileb_cast, ileb_eq, ieqb_dec, indexAddrA, inB_dec, evPairs, storeA, AV.cellsOf, pairsOf, xI_nil, binBool, gcE, evOpt, xI_block, xI_loopH, xI_condM, xI_exitM, xI_skip, xI_blk, exitA, ty2, ty49, runTr, pairsOk, pairOk, lstAt, lastOf, sameVal, AV.eqv, eqvs, eqvs_ints, regOps, blt_dec, cond_true, cond_false, fieldAddrA, allOne, AV.one, n_push, ty2, ty49, hσ, hcp, hcp1, hi]
    simp [vreg, h1]
  | true =>
    rw [h1] at hi
    have h1' := inR_iff.1 h1
    obtain ⟨k, rfl⟩ : ∃ k : Nat, w = k := ⟨w.toNat, by omega⟩
    have e2 := sh_1 (b := k) (by omega)
    have e3 := pw_dec (k := k) (by omega)
    have hc := c80 t 0 (((pw k : Nat) : Int) - 1) σ
    simp [xI_seq, xI_region, xI_ret, regA, regOps, runOps, opStep, wantedA, opA, evo, evos, calleeA, lk, nif_eq, putE, paramsE, valS, val2, keepE, restrict, finA, resA, binA, binInt, ofConst, ofConst1, loadA, TK.isAgg, asVar, unA, builtinA, lenOpA, lenA, ileb_cast, ileb_eq, ieqb_dec, indexAddrA, inB_dec, evPairs, storeA, AV.cellsOf, pairsOf, xI_nil, binBool, gcE, evOpt, xI_block, xI_loopH, xI_condM, xI_exitM, xI_skip, xI_blk, exitA, ty2, ty49, runTr, pairsOk, pairOk, lstAt, lastOf, sameVal, AV.eqv, eqvs, eqvs_ints, regOps, blt_dec, cond_true, cond_false, fieldAddrA, allOne, AV.one, n_push, ty2, ty49, hσ, hcp, hcp1, hi, hc, e2, e3]
    simp [vreg, h1]

/-- The rows of a register's machine. -/
def regR (w t : Int) : Option (Int × List Int × Int) := if (vreg w t && !decide (w = 0)) = true then some (w, nints (units 1 (w.toNat - 1) ++ [t.toNat]), 1) else none
theorem regR_no {w t : Int} (h : (vreg w t && !decide (w = 0)) = false) : regR w t = none := by simp [regR, h]
theorem regR_yes {k : Nat} {t : Nat} (h : (vreg ((k + 1 : Nat) : Int) t && !decide (((k + 1 : Nat) : Int) = 0)) = true) : regR ((k + 1 : Nat) : Int) t = some (((k + 1 : Nat) : Int), nints (units 1 k ++ [t]), 1) := by
  unfold regR; rw [if_pos h]; simp
theorem regR_length {w t W O : Int} {l : List Int} (h : regR w t = some (W, l, O)) : l.length < 1000 := by
  unfold regR at h
  split at h
  · rename_i hv
    simp only [Bool.and_eq_true, vreg] at hv
    have := inR_iff.1 hv.1.1
    cases h
    rw [nints_length]; simp [units_length]; omega
  · cases h
theorem reg_nat {w t : Int} (h : (vreg w t && !decide (w = 0)) = true) : ∃ k m : Nat, w = ((k + 1 : Nat) : Int) ∧ t = m ∧ k ≤ 15 ∧ m < 65536 := by
  simp only [Bool.and_eq_true, vreg, Bool.not_eq_true', decide_eq_false_iff_not] at h
  obtain ⟨⟨h1, h2⟩, h3⟩ := h
  have h1 := inR_iff.1 h1
  have h2 := inR_iff.1 h2
  have := pw_16 (k := w.toNat) (by omega)
  exact ⟨w.toNat - 1, t.toNat, by omega, by omega, by omega, by omega⟩
/-- A machine in the heap, whose rows are a row of their own. -/
def MRow (σ : St) (q b : Nat) (w o : Int) (l : List Nat) : Prop := q < σ.n ∧ q ≠ b ∧ σ.get q = some ⟨[.int .i64 w, .sl b 0 l.length l.length, .int .i64 o], 3, false⟩ ∧ Row σ b (nints l)
theorem MRow.app {T : Tab} {σ : St} {q b : Nat} {w o : Int} {l : List Nat} {x : Nat} {st e : TypeId} (ht : T.ty st = some ⟨.slice e, 1, 24, [.nilS]⟩) (he : T.ty e = some ⟨.int .i64, 1, 8, [.int .i64 0]⟩) (h : MRow σ q b w o l) (hs : l.length < 1000000) :
    ∃ σ1 σ', appendA T (σ.push ⟨[.int .i64 (x : Int)], 1, false⟩) st st (.sl b 0 l.length l.length) (.sl σ.n 0 1 1) = some (.sl (σ.n + 1) 0 (l.length + 1) (l.length + 1), σ1) ∧ storeCellsA σ1 q 1 [.sl (σ.n + 1) 0 (l.length + 1) (l.length + 1)] = some σ' ∧ MRow σ' q (σ.n + 1) w o (l ++ [x]) ∧ ∀ c, c ≠ b → c ≠ q → c < σ.n → σ'.get c = σ.get c := by
  obtain ⟨h1, h2, h3, h4⟩ := h
  obtain ⟨σ1, ha, hr, hn, hu⟩ := nints_append_row (x := x) ht he h4 (n := l.length) rfl (by omega)
  have hq : σ1.get q = some ⟨[.int .i64 w, .sl b 0 l.length l.length, .int .i64 o], 3, false⟩ := (hu q h2 h1).trans h3
  refine ⟨σ1, σ1.set q ⟨[.int .i64 w, .sl (σ.n + 1) 0 (l.length + 1) (l.length + 1), .int .i64 o], 3, false⟩, ha, ?_, ⟨?_, by omega, ?_, ?_⟩, ?_⟩
  · simp [storeCellsA, hq, allOne, AV.one, putN, overN]
  · rw [n_set, hn]; omega
  · rw [get_set_eq hq]; simp
  · exact hr.keep (Nat.le_refl _) (get_set_ne (by omega))
  · intro c hc hc2 hcn
    rw [get_set_ne (fun e => hc2 e.symm)]; exact hu c hc hcn
theorem MRow.cells {σ : St} {q b : Nat} {w o : Int} {l : List Nat} (h : MRow σ q b w o l) : cellsAt σ (.ptr q 1) 1 = some [.sl b 0 l.length l.length] := by
  obtain ⟨_, _, h3, _⟩ := h
  simp [cellsAt, h3, getCells, takeN, dropN]
theorem MRow.all {σ : St} {q b : Nat} {w o : Int} {l : List Nat} (h : MRow σ q b w o l) : cellsAt σ (.ptr q 0) 3 = some [.int .i64 w, .sl b 0 l.length l.length, .int .i64 o] := by
  obtain ⟨_, _, h3, _⟩ := h
  simp [cellsAt, h3, getCells, takeN, dropN]

end Go.Proofs.Ytonnbgjbohbibaa
