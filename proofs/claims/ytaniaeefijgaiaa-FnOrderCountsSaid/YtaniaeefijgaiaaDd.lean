/- The law: orders of ranks. Nothing is claimed here; no condition. -/
import Derived.Test.YtaniaeefijgaiaaDc
namespace Go.Proofs.Ytaniaeefijgaiaa
open Go Go.Abs
set_option linter.unusedSimpArgs false
set_option linter.unusedVariables false
set_option maxHeartbeats 2000000 in
theorem w6 (n : Int) (rank : Int) : FnV TT 6 [.int .i64 n, .int .i64 rank] (.bool true) := by
  refine FnV.mk fn6 rfl md6 ?_ (fun _ => rfl) rfl
  rw [fi6]
  have hout : ∀ out, ordR n rank = some out → out.length ≤ 12 := fun _ h => ordR_length h
  cases hx : ordR n rank with
  | none =>
    have hS := o30 n rank
    have hI := o31 n rank
    rw [hx] at hS hI
    have c1 := FnO.nil hS (σ := (⟨[], 0⟩ : St)) (args := [.int .i64 n, .int .i64 rank]) (rfl)
    have c2 := FnO.nil hI (σ := (⟨[], 0⟩ : St)) (args := [.int .i64 n, .int .i64 rank]) (rfl)
    have c3 := v23n (⟨[], 0⟩ : St) [.nilS, .nilS] rfl
    have c4 := m24n (⟨[], 0⟩ : St) 1
    have c5 := v25n 1 (⟨[], 0⟩ : St) [.nilS, .int .i64 (1 : Nat)] rfl
    have c6 := FnO.nil hI (σ := (⟨[], 0⟩ : St)) (args := [.int .i64 n, .int .i64 rank]) (rfl)
    have c7 := v23n (⟨[], 0⟩ : St) [.nilS, .nilS] rfl
    have c8 := v25n 1 (⟨[], 0⟩ : St) [.nilS, .int .i64 (1 : Nat)] rfl
    refine ⟨(⟨[], 0⟩ : St), ?_⟩
    clear hS hI
    simp only [show ((1 : Nat) : Int) = 1 from rfl, Int.natCast_add] at c1 c2 c3 c4 c5 c6 c7 c8
    simp [xI_seq, xI_region, xI_ret, regA, regOps, runOps, opStep, wantedA, opA, evo, evos, calleeA, lk, nif_eq, putE, paramsE, valS, val2, keepE, restrict, finA, resA, binA, binInt, ofConst, ofConst1, loadA, TK.isAgg, asVar, unA, builtinA, lenOpA, lenA, ileb_cast, ileb_eq, ieqb_dec, indexAddrA, inB_dec, evPairs, storeA, AV.cellsOf, pairsOf, xI_nil, binBool, gcE, evOpt, xI_block, xI_loopH, xI_condM, xI_exitM, xI_skip, xI_blk, exitA, ty3, ty4, c1, c2, c3, c4, c5, c6, c7, c8]
  | some out =>
    have hS := o30 n rank
    have hI := o31 n rank
    rw [hx] at hS hI
    have hlo : out.length < 1000000 := by have := hout out hx; omega
    obtain ⟨b1, σ1, c1, r1, o1, e1⟩ := FnO.row hS (σ := (⟨[], 0⟩ : St)) (args := [.int .i64 n, .int .i64 rank]) (rfl)
    have := r1.lt
    obtain ⟨b2, σ2, c2, r2, o2, e2⟩ := FnO.row hI (σ := σ1) (args := [.int .i64 n, .int .i64 rank]) (rfl)
    replace r1 := r1.old o2
    have c3 := v23 out out out.length out.length rfl rfl (by omega) σ2 [.sl b2 0 out.length out.length, .sl b1 0 out.length out.length] (mapO_cons (r2.frz rfl (Nat.le_refl _)) (mapO_cons (r1.frz rfl (Nat.le_refl _)) rfl))
    simp only [decide_true] at c3
    obtain ⟨σ4, c4, q4, u4⟩ := m24 σ2 b2 out.length 1 out rfl (by omega) (by omega) r2
    replace r1 := r1.but (by omega) u4
    have z4 := u4.1
    have c5 := v25 out.length 1 (by omega) (by omega) σ4 [.sl b2 0 out.length out.length, .int .i64 (1 : Nat)] (mapO_cons (q4.frz (iotaF_length _ _).symm (Nat.le_refl _)) rfl)
    have := r1.lt
    have := q4.lt
    obtain ⟨b6, σ6, c6, r6, o6, e6⟩ := FnO.row hI (σ := σ4) (args := [.int .i64 n, .int .i64 rank]) (rfl)
    replace r1 := r1.old o6
    replace q4 := q4.old o6
    have c7 := v23 out out out.length out.length rfl rfl (by omega) σ6 [.sl b6 0 out.length out.length, .sl b1 0 out.length out.length] (mapO_cons (r6.frz rfl (Nat.le_refl _)) (mapO_cons (r1.frz rfl (Nat.le_refl _)) rfl))
    simp only [decide_true] at c7
    have c8 := v25 out.length 1 (by omega) (by omega) σ6 [.sl b2 0 out.length out.length, .int .i64 (1 : Nat)] (mapO_cons (q4.frz (iotaF_length _ _).symm (Nat.le_refl _)) rfl)
    refine ⟨σ6, ?_⟩
    clear hS hI
    simp only [show ((1 : Nat) : Int) = 1 from rfl, Int.natCast_add] at c1 c2 c3 c4 c5 c6 c7 c8
    have hz2 : (0 : Int) ≤ 1 + (out.length : Int) := by omega
    simp [xI_seq, xI_region, xI_ret, regA, regOps, runOps, opStep, wantedA, opA, evo, evos, calleeA, lk, nif_eq, putE, paramsE, valS, val2, keepE, restrict, finA, resA, binA, binInt, ofConst, ofConst1, loadA, TK.isAgg, asVar, unA, builtinA, lenOpA, lenA, ileb_cast, ileb_eq, ieqb_dec, indexAddrA, inB_dec, evPairs, storeA, AV.cellsOf, pairsOf, xI_nil, binBool, gcE, evOpt, xI_block, xI_loopH, xI_condM, xI_exitM, xI_skip, xI_blk, exitA, ty3, ty4, c1, c2, c3, c4, c5, c6, c7, c8, hz2]
end Go.Proofs.Ytaniaeefijgaiaa
