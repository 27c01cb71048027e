/- The law: ranks of sets. Nothing is claimed here; no condition. -/
import Derived.Test.YtaniaeefijgaiaaCs
namespace Go.Proofs.Ytaniaeefijgaiaa
open Go Go.Abs
set_option linter.unusedSimpArgs false
set_option linter.unusedVariables false
set_option maxHeartbeats 2000000 in
theorem w10 (N : Int) (l : List Int) : FnV TT 10 [.int .i64 N, .lst l.length (ints l)] (.bool true) := by
  refine FnV.mk fn10 rfl md10 ?_ (fun _ => rfl) rfl
  rw [fi10]
  by_cases hbig : 1048576 < l.length
  · refine ⟨⟨[], 0⟩, ?_⟩
    have hbig' : ¬ (l.length : Int) ≤ 1048576 := by omega
    simp [xI_seq, xI_region, xI_ret, regA, regOps, runOps, opStep, wantedA, opA, evo, evos, calleeA, lk, nif_eq, putE, paramsE, valS, val2, keepE, restrict, finA, resA, binA, binInt, ofConst, ofConst1, loadA, TK.isAgg, asVar, unA, builtinA, lenOpA, lenA, ileb_cast, ileb_eq, ieqb_dec, indexAddrA, inB_dec, evPairs, storeA, AV.cellsOf, pairsOf, xI_nil, binBool, gcE, evOpt, xI_block, xI_loopH, xI_condM, xI_exitM, xI_skip, xI_blk, exitA, ty2, ty3, ty4, ty22, hbig, hbig']
  · have hl : l.length ≤ 1048576 := by omega
    have hbg : (l.length : Int) ≤ 1048576 := by omega
    have hS := v38 N l (by omega)
    have hI := v39 N l (by omega)
    obtain ⟨b1, σ1, c1, r1, o1, e1⟩ := FnS.row (s21 l l.length rfl (by omega)) (σ := (⟨[], 0⟩ : St)) (args := [.lst l.length (ints l)]) rfl
    have c2 := hS σ1 [.int .i64 N, .sl b1 0 l.length l.length] (mapO_cons rfl (mapO_cons (r1.frz rfl (Nat.le_refl _)) rfl))
    obtain ⟨b3, σ3, c3, r3, o3, e3⟩ := FnS.row (s21 l l.length rfl (by omega)) (σ := σ1) (args := [.lst l.length (ints l)]) rfl
    have c4 := hI σ3 [.int .i64 N, .sl b3 0 l.length l.length] (mapO_cons rfl (mapO_cons (r3.frz rfl (Nat.le_refl _)) rfl))
    obtain ⟨b5, σ5, c5, r5, o5, e5⟩ := FnS.row (s21 l l.length rfl (by omega)) (σ := σ3) (args := [.lst l.length (ints l)]) rfl
    replace r3 := r3.old o5
    have c6 := v23 l l l.length l.length rfl rfl (by omega) σ5 [.sl b3 0 l.length l.length, .sl b5 0 l.length l.length] (mapO_cons (r3.frz rfl (Nat.le_refl _)) (mapO_cons (r5.frz rfl (Nat.le_refl _)) rfl))
    simp only [decide_true] at c6
    clear hS hI
    refine ⟨σ5, ?_⟩
    obtain ⟨a, b, hab⟩ : ∃ a b, rankR N l = .tup [.int .i64 a, .bool b] := by unfold rankR; split <;> exact ⟨_, _, rfl⟩
    rw [hab] at c2 c4
    simp [xI_seq, xI_region, xI_ret, regA, regOps, runOps, opStep, wantedA, opA, evo, evos, calleeA, lk, nif_eq, putE, paramsE, valS, val2, keepE, restrict, finA, resA, binA, binInt, ofConst, ofConst1, loadA, TK.isAgg, asVar, unA, builtinA, lenOpA, lenA, ileb_cast, ileb_eq, ieqb_dec, indexAddrA, inB_dec, evPairs, storeA, AV.cellsOf, pairsOf, xI_nil, binBool, gcE, evOpt, xI_block, xI_loopH, xI_condM, xI_exitM, xI_skip, xI_blk, exitA, ty2, ty3, ty4, ty22, hbg, c1, c2, c3, c4, c5, c6]

end Go.Proofs.Ytaniaeefijgaiaa
