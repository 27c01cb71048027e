/- The law of the states that agree with most bits. Nothing is claimed here; no condition. -/
import Derived.Test.YthkdbkjkccogfaaDoorGe
namespace Go.Proofs.YthkdbkjkccogfaaDoor
open Go Go.Abs
set_option linter.unusedSimpArgs false
set_option linter.unusedVariables false
open Go.Wd
theorem FnP.row {T : Tab} {f : FuncId} {args' args : List AV} {l : List Int} {m : Int} (h : FnP T f args' (Option.some (l, m))) {σ : St} (ha : mapO (frzV σ frzDepth) args = some args') :
    ∃ b σ', callI T f args σ = some (.tup [.sl b 0 l.length l.length, .int .i64 m, .bool true], σ') ∧ Row σ' b l ∧ Old σ σ' ∧ σ.n = b := by
  obtain ⟨o, h⟩ := h σ args ha
  exact ⟨σ.n, _, h, Row.push, Old.push, rfl⟩
theorem FnP.nil {T : Tab} {f : FuncId} {args' args : List AV} (h : FnP T f args' Option.none) {σ : St} (ha : mapO (frzV σ frzDepth) args = some args') :
    callI T f args σ = some (.tup [.nilS, .int .i64 0, .bool false], σ) := by
  obtain ⟨o, h⟩ := h σ args ha
  exact h
theorem bsR_len {w t : Int} {l : List UInt8} {r : List Int × Int} (h : bsR w t l = some r) : r.1.length ≤ 1024 := by
  cases hok : bsOk w t l with
  | false => rw [bsR_no hok] at h; cases h
  | true =>
    obtain ⟨k, m, rfl, rfl, hk, _, _, _⟩ := bsOk_nat hok
    rw [bsR_yes hok] at h
    cases h
    have : 2 ^ k ≤ 2 ^ 10 := Nat.pow_le_pow_right (by decide) hk
    have := (bestR_len k m l (2 ^ k)).1
    omega
theorem box_cp {σ : St} {w t : Int} (h : σ.get 0 = some ⟨[.int .i64 w, .int .i64 t], 2, false⟩) : cellsAt σ (.ptr 0 0) 2 = some [.int .i64 w, .int .i64 t] := by simp [cellsAt, h, getCells, takeN, dropN]
set_option maxHeartbeats 2000000 in
theorem w3 (w t : Int) (l : List UInt8) : FnV TT 3 [.agg [.int .i64 w, .int .i64 t], .str l] (.bool true) := by
  refine FnV.mk fn3 rfl md3 ?_ (fun _ => rfl) rfl
  rw [fi3]
  obtain ⟨σ, hσ⟩ : ∃ σ, (⟨[], 0⟩ : St).push ⟨[.int .i64 w, .int .i64 t], 2, false⟩ = σ := ⟨_, rfl⟩
  have hg : σ.get 0 = some ⟨[.int .i64 w, .int .i64 t], 2, false⟩ := by subst hσ; rfl
  have hn : σ.n = 1 := by subst hσ; rfl
  by_cases hbig : 1048576 < l.length
  · have hbig' : ¬ (l.length : Int) ≤ 1048576 := by omega
    refine ⟨σ, ?_⟩
    simp [xI_seq, xI_region, xI_ret, regA, regOps, runOps, opStep, wantedA, opA, evo, evos, calleeA, lk, nif_eq, putE, paramsE, valS, val2, keepE, restrict, finA, resA, binA, binInt, ofConst, ofConst1, loadA, TK.isAgg, asVar, unA, builtinA, lenOpA, lenA, ileb_cast, ileb_eq, ieqb_dec, indexAddrA, inB_dec, evPairs, storeA, AV.cellsOf, pairsOf, xI_nil, binBool, gcE, evOpt, tagZ, xI_block, xI_loopH, xI_condM, xI_exitM, xI_skip, xI_blk, exitA, ty2, ty3, ty4, ty9, ty23, runTr, pairsOk, pairOk, lstAt, lastOf, sameVal, AV.eqv, eqvs, eqvs_ints, regOps, blt_dec, cond_true, cond_false, allOne, AV.one, n_push, ty2, ty27, hσ, hbig']
  · have hbg : (l.length : Int) ≤ 1048576 := by omega
    have hS := r12 w t l (by omega)
    have hI := r14 w t l (by omega)
    have hto : ∀ σ : St, callI TT 13 [.agg [.int .i64 w, .int .i64 t]] σ = some (.agg [.int .i64 w, .int .i64 t], σ) := fun σ => v13 w t σ _ rfl
    have hp0 := box_cp hg
    cases hx : bsR w t l with
    | none =>
      rw [hx] at hS hI
      have c1 := FnP.nil hS (σ := σ) (args := [.agg [.int .i64 w, .int .i64 t], .str l]) rfl
      have c2 := FnP.nil hI (σ := σ) (args := [.agg [.int .i64 w, .int .i64 t], .str l]) rfl
      have c3 := v15n σ [.nilS, .nilS] rfl
      have c4 := m16n σ 1
      have c5 := v17n 1 σ [.nilS, .int .i64 (1 : Nat)] rfl
      refine ⟨σ, ?_⟩
      simp only [show ((1 : Nat) : Int) = 1 from rfl, Int.natCast_add] at c1 c2 c3 c4 c5
      simp [xI_seq, xI_region, xI_ret, regA, regOps, runOps, opStep, wantedA, opA, evo, evos, calleeA, lk, nif_eq, putE, paramsE, valS, val2, keepE, restrict, finA, resA, binA, binInt, ofConst, ofConst1, loadA, TK.isAgg, asVar, unA, builtinA, lenOpA, lenA, ileb_cast, ileb_eq, ieqb_dec, indexAddrA, inB_dec, evPairs, storeA, AV.cellsOf, pairsOf, xI_nil, binBool, gcE, evOpt, tagZ, xI_block, xI_loopH, xI_condM, xI_exitM, xI_skip, xI_blk, exitA, ty2, ty3, ty4, ty9, ty23, runTr, pairsOk, pairOk, lstAt, lastOf, sameVal, AV.eqv, eqvs, eqvs_ints, regOps, blt_dec, cond_true, cond_false, allOne, AV.one, n_push, ty2, ty27, hσ, hbg, hto, hp0, c1, c2, c3, c4, c5]
    | some rr =>
      obtain ⟨out, mo⟩ := rr
      rw [hx] at hS hI
      have hlo : out.length ≤ 1024 := bsR_len hx
      obtain ⟨b1, σ1, c1, r1, o1, e1⟩ := FnP.row hS (σ := σ) (args := [.agg [.int .i64 w, .int .i64 t], .str l]) rfl
      have g1 := (o1.2 0 (by omega)).trans hg
      have hp1 := box_cp g1
      have l1 := r1.lt
      obtain ⟨b2, σ2, c2, r2, o2, e2⟩ := FnP.row hI (σ := σ1) (args := [.agg [.int .i64 w, .int .i64 t], .str l]) rfl
      replace r1 := r1.old o2
      have g2 := (o2.2 0 (by omega)).trans g1
      have l2 := r2.lt
      have hp2 := box_cp g2
      have c3 := v15 out out out.length out.length rfl rfl (by omega) σ2 [.sl b2 0 out.length out.length, .sl b1 0 out.length out.length] (mapO_cons (r2.frz rfl (Nat.le_refl _)) (mapO_cons (r1.frz rfl (Nat.le_refl _)) rfl))
      simp only [decide_true] at c3
      obtain ⟨σ3, c4, q4, u4⟩ := m16 σ2 b2 out.length 1 out rfl (by omega) (by omega) r2
      replace r1 := r1.but (by omega) u4
      have g3 := (u4.2 0 (by omega)).trans g2
      have hp3 := box_cp g3
      have z4 := u4.1
      have l3 := r1.lt
      have l4 := q4.lt
      have c5 := v17 out.length 1 (by omega) (by omega) σ3 [.sl b2 0 out.length out.length, .int .i64 (1 : Nat)] (mapO_cons (q4.frz (iotaF_length _ _).symm (Nat.le_refl _)) rfl)
      obtain ⟨b5, σ5, c6, r5, o5, e5⟩ := FnP.row hI (σ := σ3) (args := [.agg [.int .i64 w, .int .i64 t], .str l]) rfl
      replace r1 := r1.old o5
      replace q4 := q4.old o5
      have c7 := v15 out out out.length out.length rfl rfl (by omega) σ5 [.sl b5 0 out.length out.length, .sl b1 0 out.length out.length] (mapO_cons (r5.frz rfl (Nat.le_refl _)) (mapO_cons (r1.frz rfl (Nat.le_refl _)) rfl))
      simp only [decide_true] at c7
      have c8 := v17 out.length 1 (by omega) (by omega) σ5 [.sl b2 0 out.length out.length, .int .i64 (1 : Nat)] (mapO_cons (q4.frz (iotaF_length _ _).symm (Nat.le_refl _)) rfl)
      have hz2 : (0 : Int) ≤ 1 + (out.length : Int) := by omega
      refine ⟨σ5, ?_⟩
      clear hS hI
      simp only [show ((1 : Nat) : Int) = 1 from rfl, Int.natCast_add] at c1 c2 c3 c4 c5 c6 c7 c8
      simp [xI_seq, xI_region, xI_ret, regA, regOps, runOps, opStep, wantedA, opA, evo, evos, calleeA, lk, nif_eq, putE, paramsE, valS, val2, keepE, restrict, finA, resA, binA, binInt, ofConst, ofConst1, loadA, TK.isAgg, asVar, unA, builtinA, lenOpA, lenA, ileb_cast, ileb_eq, ieqb_dec, indexAddrA, inB_dec, evPairs, storeA, AV.cellsOf, pairsOf, xI_nil, binBool, gcE, evOpt, tagZ, xI_block, xI_loopH, xI_condM, xI_exitM, xI_skip, xI_blk, exitA, ty2, ty3, ty4, ty9, ty23, runTr, pairsOk, pairOk, lstAt, lastOf, sameVal, AV.eqv, eqvs, eqvs_ints, regOps, blt_dec, cond_true, cond_false, allOne, AV.one, n_push, ty2, ty27, hσ, hbg, hto, hp0, hp1, hp2, hp3, c1, c2, c3, c4, c5, c6, c7, c8, hz2]

end Go.Proofs.YthkdbkjkccogfaaDoor
