/- The law: samples by choices. Nothing is claimed here; no condition. -/
import Derived.Test.YtaniaeefijgaiaaCz
namespace Go.Proofs.Ytaniaeefijgaiaa
open Go Go.Abs
set_option linter.unusedSimpArgs false
set_option linter.unusedVariables false
set_option maxHeartbeats 2000000 in
theorem w12 (n : Int) (v : AV) (l : List Int) (hv : (v = .lst l.length (ints l)) ∨ (v = .nilS ∧ l = [])) : FnV TT 12 [.int .i64 n, v] (.bool true) := by
  refine FnV.mk fn12 rfl md12 ?_ (fun _ => rfl) rfl
  rw [fi12]
  rcases hv with rfl | ⟨rfl, rfl⟩
  · by_cases hbig : 1048576 < l.length
    · refine ⟨⟨[], 0⟩, ?_⟩
      have hbig' : ¬ (l.length : Int) ≤ 1048576 := by omega
      simp [xI_seq, xI_region, xI_ret, regA, regOps, runOps, opStep, wantedA, opA, evo, evos, calleeA, lk, nif_eq, putE, paramsE, valS, val2, keepE, restrict, finA, resA, binA, binInt, ofConst, ofConst1, loadA, TK.isAgg, asVar, unA, builtinA, lenOpA, lenA, ileb_cast, ileb_eq, ieqb_dec, indexAddrA, inB_dec, evPairs, storeA, AV.cellsOf, pairsOf, xI_nil, binBool, gcE, evOpt, xI_block, xI_loopH, xI_condM, xI_exitM, xI_skip, xI_blk, exitA, ty2, ty3, ty4, ty22, hbig, hbig']
    · have hl : l.length ≤ 1048576 := by omega
      have hout : ∀ out, sampR n l = some out → out.length ≤ 12 := fun _ h => sampR_length h
      cases hx : sampR n l with
      | none =>
        have hS := o42 n l (by omega)
        have hI := o43 n l (by omega)
        rw [hx] at hS hI
        obtain ⟨b1, σ1, c1, r1, o1, e1⟩ := FnS.row (s21 l l.length rfl (by omega)) (σ := (⟨[], 0⟩ : St)) (args := [.lst l.length (ints l)]) rfl
        have c2 := FnO.nil hS (σ := σ1) (args := [.int .i64 n, .sl b1 0 l.length l.length]) (mapO_cons rfl (mapO_cons (r1.frz rfl (Nat.le_refl _)) rfl))
        have := r1.lt
        obtain ⟨b3, σ3, c3, r3, o3, e3⟩ := FnS.row (s21 l l.length rfl (by omega)) (σ := σ1) (args := [.lst l.length (ints l)]) rfl
        replace r1 := r1.old o3
        have c4 := FnO.nil hI (σ := σ3) (args := [.int .i64 n, .sl b3 0 l.length l.length]) (mapO_cons rfl (mapO_cons (r3.frz rfl (Nat.le_refl _)) rfl))
        have c5 := v23n σ3 [.nilS, .nilS] rfl
        have := r1.lt
        have := r3.lt
        obtain ⟨b6, σ6, c6, r6, o6, e6⟩ := FnS.row (s21 l l.length rfl (by omega)) (σ := σ3) (args := [.lst l.length (ints l)]) rfl
        replace r1 := r1.old o6
        replace r3 := r3.old o6
        have c7 := v23 l l l.length l.length rfl rfl (by omega) σ6 [.sl b3 0 l.length l.length, .sl b6 0 l.length l.length] (mapO_cons (r3.frz rfl (Nat.le_refl _)) (mapO_cons (r6.frz rfl (Nat.le_refl _)) rfl))
        simp only [decide_true] at c7
        obtain ⟨σ8, c8, q8, u8⟩ := m24 σ6 b3 l.length 1 l rfl (by omega) (by omega) r3
        replace r1 := r1.but (by omega) u8
        replace r6 := r6.but (by omega) u8
        have z8 := u8.1
        have c9 := v23n σ8 [.nilS, .nilS] rfl
        have c10 := m24n σ8 1
        have c11 := v25n 1 σ8 [.nilS, .int .i64 (1 : Nat)] rfl
        have := r1.lt
        have := q8.lt
        have := r6.lt
        obtain ⟨b12, σ12, c12, r12, o12, e12⟩ := FnS.row (s21 l l.length rfl (by omega)) (σ := σ8) (args := [.lst l.length (ints l)]) rfl
        replace r1 := r1.old o12
        replace q8 := q8.old o12
        replace r6 := r6.old o12
        have c13 := FnO.nil hI (σ := σ12) (args := [.int .i64 n, .sl b12 0 l.length l.length]) (mapO_cons rfl (mapO_cons (r12.frz rfl (Nat.le_refl _)) rfl))
        have c14 := v23n σ12 [.nilS, .nilS] rfl
        have c15 := v25n 1 σ12 [.nilS, .int .i64 (1 : Nat)] rfl
        refine ⟨σ12, ?_⟩
        clear hS hI
        simp only [show ((1 : Nat) : Int) = 1 from rfl, Int.natCast_add] at c1 c2 c3 c4 c5 c6 c7 c8 c9 c10 c11 c12 c13 c14 c15
        have hz1 : (0 : Int) ≤ 1 + (l.length : Int) := by omega
        have hbg : (l.length : Int) ≤ 1048576 := by omega
        simp [xI_seq, xI_region, xI_ret, regA, regOps, runOps, opStep, wantedA, opA, evo, evos, calleeA, lk, nif_eq, putE, paramsE, valS, val2, keepE, restrict, finA, resA, binA, binInt, ofConst, ofConst1, loadA, TK.isAgg, asVar, unA, builtinA, lenOpA, lenA, ileb_cast, ileb_eq, ieqb_dec, indexAddrA, inB_dec, evPairs, storeA, AV.cellsOf, pairsOf, xI_nil, binBool, gcE, evOpt, xI_block, xI_loopH, xI_condM, xI_exitM, xI_skip, xI_blk, exitA, ty2, ty3, ty4, ty22, c1, c2, c3, c4, c5, c6, c7, c8, c9, c10, c11, c12, c13, c14, c15, hz1, hbg]
      | some out =>
        have hS := o42 n l (by omega)
        have hI := o43 n l (by omega)
        rw [hx] at hS hI
        have hlo : out.length < 1000000 := by have := hout out hx; omega
        obtain ⟨b1, σ1, c1, r1, o1, e1⟩ := FnS.row (s21 l l.length rfl (by omega)) (σ := (⟨[], 0⟩ : St)) (args := [.lst l.length (ints l)]) rfl
        have := r1.lt
        obtain ⟨b2, σ2, c2, r2, o2, e2⟩ := FnO.row hS (σ := σ1) (args := [.int .i64 n, .sl b1 0 l.length l.length]) (mapO_cons rfl (mapO_cons (r1.frz rfl (Nat.le_refl _)) rfl))
        replace r1 := r1.old o2
        have := r1.lt
        have := r2.lt
        obtain ⟨b3, σ3, c3, r3, o3, e3⟩ := FnS.row (s21 l l.length rfl (by omega)) (σ := σ2) (args := [.lst l.length (ints l)]) rfl
        replace r1 := r1.old o3
        replace r2 := r2.old o3
        have := r1.lt
        have := r2.lt
        have := r3.lt
        obtain ⟨b4, σ4, c4, r4, o4, e4⟩ := FnO.row hI (σ := σ3) (args := [.int .i64 n, .sl b3 0 l.length l.length]) (mapO_cons rfl (mapO_cons (r3.frz rfl (Nat.le_refl _)) rfl))
        replace r1 := r1.old o4
        replace r2 := r2.old o4
        replace r3 := r3.old o4
        have c5 := v23 out out out.length out.length rfl rfl (by omega) σ4 [.sl b4 0 out.length out.length, .sl b2 0 out.length out.length] (mapO_cons (r4.frz rfl (Nat.le_refl _)) (mapO_cons (r2.frz rfl (Nat.le_refl _)) rfl))
        simp only [decide_true] at c5
        have := r1.lt
        have := r2.lt
        have := r3.lt
        have := r4.lt
        obtain ⟨b6, σ6, c6, r6, o6, e6⟩ := FnS.row (s21 l l.length rfl (by omega)) (σ := σ4) (args := [.lst l.length (ints l)]) rfl
        replace r1 := r1.old o6
        replace r2 := r2.old o6
        replace r3 := r3.old o6
        replace r4 := r4.old o6
        have c7 := v23 l l l.length l.length rfl rfl (by omega) σ6 [.sl b3 0 l.length l.length, .sl b6 0 l.length l.length] (mapO_cons (r3.frz rfl (Nat.le_refl _)) (mapO_cons (r6.frz rfl (Nat.le_refl _)) rfl))
        simp only [decide_true] at c7
        obtain ⟨σ8, c8, q8, u8⟩ := m24 σ6 b3 l.length 1 l rfl (by omega) (by omega) r3
        replace r1 := r1.but (by omega) u8
        replace r2 := r2.but (by omega) u8
        replace r4 := r4.but (by omega) u8
        replace r6 := r6.but (by omega) u8
        have z8 := u8.1
        have c9 := v23 out out out.length out.length rfl rfl (by omega) σ8 [.sl b4 0 out.length out.length, .sl b2 0 out.length out.length] (mapO_cons (r4.frz rfl (Nat.le_refl _)) (mapO_cons (r2.frz rfl (Nat.le_refl _)) rfl))
        simp only [decide_true] at c9
        obtain ⟨σ10, c10, q10, u10⟩ := m24 σ8 b4 out.length 1 out rfl (by omega) (by omega) r4
        replace r1 := r1.but (by omega) u10
        replace r2 := r2.but (by omega) u10
        replace q8 := q8.but (by omega) u10
        replace r6 := r6.but (by omega) u10
        have z10 := u10.1
        have c11 := v25 out.length 1 (by omega) (by omega) σ10 [.sl b4 0 out.length out.length, .int .i64 (1 : Nat)] (mapO_cons (q10.frz (iotaF_length _ _).symm (Nat.le_refl _)) rfl)
        have := r1.lt
        have := r2.lt
        have := q8.lt
        have := q10.lt
        have := r6.lt
        obtain ⟨b12, σ12, c12, r12, o12, e12⟩ := FnS.row (s21 l l.length rfl (by omega)) (σ := σ10) (args := [.lst l.length (ints l)]) rfl
        replace r1 := r1.old o12
        replace r2 := r2.old o12
        replace q8 := q8.old o12
        replace q10 := q10.old o12
        replace r6 := r6.old o12
        have := r1.lt
        have := r2.lt
        have := q8.lt
        have := q10.lt
        have := r6.lt
        have := r12.lt
        obtain ⟨b13, σ13, c13, r13, o13, e13⟩ := FnO.row hI (σ := σ12) (args := [.int .i64 n, .sl b12 0 l.length l.length]) (mapO_cons rfl (mapO_cons (r12.frz rfl (Nat.le_refl _)) rfl))
        replace r1 := r1.old o13
        replace r2 := r2.old o13
        replace q8 := q8.old o13
        replace q10 := q10.old o13
        replace r6 := r6.old o13
        replace r12 := r12.old o13
        have c14 := v23 out out out.length out.length rfl rfl (by omega) σ13 [.sl b13 0 out.length out.length, .sl b2 0 out.length out.length] (mapO_cons (r13.frz rfl (Nat.le_refl _)) (mapO_cons (r2.frz rfl (Nat.le_refl _)) rfl))
        simp only [decide_true] at c14
        have c15 := v25 out.length 1 (by omega) (by omega) σ13 [.sl b4 0 out.length out.length, .int .i64 (1 : Nat)] (mapO_cons (q10.frz (iotaF_length _ _).symm (Nat.le_refl _)) rfl)
        refine ⟨σ13, ?_⟩
        clear hS hI
        simp only [show ((1 : Nat) : Int) = 1 from rfl, Int.natCast_add] at c1 c2 c3 c4 c5 c6 c7 c8 c9 c10 c11 c12 c13 c14 c15
        have hz1 : (0 : Int) ≤ 1 + (l.length : Int) := by omega
        have hbg : (l.length : Int) ≤ 1048576 := by omega
        have hz2 : (0 : Int) ≤ 1 + (out.length : Int) := by omega
        simp [xI_seq, xI_region, xI_ret, regA, regOps, runOps, opStep, wantedA, opA, evo, evos, calleeA, lk, nif_eq, putE, paramsE, valS, val2, keepE, restrict, finA, resA, binA, binInt, ofConst, ofConst1, loadA, TK.isAgg, asVar, unA, builtinA, lenOpA, lenA, ileb_cast, ileb_eq, ieqb_dec, indexAddrA, inB_dec, evPairs, storeA, AV.cellsOf, pairsOf, xI_nil, binBool, gcE, evOpt, xI_block, xI_loopH, xI_condM, xI_exitM, xI_skip, xI_blk, exitA, ty2, ty3, ty4, ty22, c1, c2, c3, c4, c5, c6, c7, c8, c9, c10, c11, c12, c13, c14, c15, hz1, hbg, hz2]
  · have hl : ([] : List Int).length ≤ 1048576 := by decide
    generalize hnil : ([] : List Int) = l at *
    have hout : ∀ out, sampR n l = some out → out.length ≤ 12 := fun _ h => sampR_length h
    have hto : FnS TT 21 [.nilS] l := by rw [← hnil]; exact s21n
    cases hx : sampR n l with
    | none =>
      have hS := o42 n l (by omega)
      have hI := o43 n l (by omega)
      rw [hx] at hS hI
      obtain ⟨b1, σ1, c1, r1, o1, e1⟩ := FnS.row hto (σ := (⟨[], 0⟩ : St)) (args := [.nilS]) rfl
      have c2 := FnO.nil hS (σ := σ1) (args := [.int .i64 n, .sl b1 0 l.length l.length]) (mapO_cons rfl (mapO_cons (r1.frz rfl (Nat.le_refl _)) rfl))
      have := r1.lt
      obtain ⟨b3, σ3, c3, r3, o3, e3⟩ := FnS.row hto (σ := σ1) (args := [.nilS]) rfl
      replace r1 := r1.old o3
      have c4 := FnO.nil hI (σ := σ3) (args := [.int .i64 n, .sl b3 0 l.length l.length]) (mapO_cons rfl (mapO_cons (r3.frz rfl (Nat.le_refl _)) rfl))
      have c5 := v23n σ3 [.nilS, .nilS] rfl
      have := r1.lt
      have := r3.lt
      obtain ⟨b6, σ6, c6, r6, o6, e6⟩ := FnS.row hto (σ := σ3) (args := [.nilS]) rfl
      replace r1 := r1.old o6
      replace r3 := r3.old o6
      have c7 := v23 l l l.length l.length rfl rfl (by omega) σ6 [.sl b3 0 l.length l.length, .sl b6 0 l.length l.length] (mapO_cons (r3.frz rfl (Nat.le_refl _)) (mapO_cons (r6.frz rfl (Nat.le_refl _)) rfl))
      simp only [decide_true] at c7
      obtain ⟨σ8, c8, q8, u8⟩ := m24 σ6 b3 l.length 1 l rfl (by omega) (by omega) r3
      replace r1 := r1.but (by omega) u8
      replace r6 := r6.but (by omega) u8
      have z8 := u8.1
      have c9 := v23n σ8 [.nilS, .nilS] rfl
      have c10 := m24n σ8 1
      have c11 := v25n 1 σ8 [.nilS, .int .i64 (1 : Nat)] rfl
      have := r1.lt
      have := q8.lt
      have := r6.lt
      obtain ⟨b12, σ12, c12, r12, o12, e12⟩ := FnS.row hto (σ := σ8) (args := [.nilS]) rfl
      replace r1 := r1.old o12
      replace q8 := q8.old o12
      replace r6 := r6.old o12
      have c13 := FnO.nil hI (σ := σ12) (args := [.int .i64 n, .sl b12 0 l.length l.length]) (mapO_cons rfl (mapO_cons (r12.frz rfl (Nat.le_refl _)) rfl))
      have c14 := v23n σ12 [.nilS, .nilS] rfl
      have c15 := v25n 1 σ12 [.nilS, .int .i64 (1 : Nat)] rfl
      refine ⟨σ12, ?_⟩
      clear hS hI
      simp only [show ((1 : Nat) : Int) = 1 from rfl, Int.natCast_add] at c1 c2 c3 c4 c5 c6 c7 c8 c9 c10 c11 c12 c13 c14 c15
      have hz1 : (0 : Int) ≤ 1 + (l.length : Int) := by omega
      have hbg : (l.length : Int) ≤ 1048576 := by omega
      simp [xI_seq, xI_region, xI_ret, regA, regOps, runOps, opStep, wantedA, opA, evo, evos, calleeA, lk, nif_eq, putE, paramsE, valS, val2, keepE, restrict, finA, resA, binA, binInt, ofConst, ofConst1, loadA, TK.isAgg, asVar, unA, builtinA, lenOpA, lenA, ileb_cast, ileb_eq, ieqb_dec, indexAddrA, inB_dec, evPairs, storeA, AV.cellsOf, pairsOf, xI_nil, binBool, gcE, evOpt, xI_block, xI_loopH, xI_condM, xI_exitM, xI_skip, xI_blk, exitA, ty2, ty3, ty4, ty22, c1, c2, c3, c4, c5, c6, c7, c8, c9, c10, c11, c12, c13, c14, c15, hz1, hbg]
    | some out =>
      have hS := o42 n l (by omega)
      have hI := o43 n l (by omega)
      rw [hx] at hS hI
      have hlo : out.length < 1000000 := by have := hout out hx; omega
      obtain ⟨b1, σ1, c1, r1, o1, e1⟩ := FnS.row hto (σ := (⟨[], 0⟩ : St)) (args := [.nilS]) rfl
      have := r1.lt
      obtain ⟨b2, σ2, c2, r2, o2, e2⟩ := FnO.row hS (σ := σ1) (args := [.int .i64 n, .sl b1 0 l.length l.length]) (mapO_cons rfl (mapO_cons (r1.frz rfl (Nat.le_refl _)) rfl))
      replace r1 := r1.old o2
      have := r1.lt
      have := r2.lt
      obtain ⟨b3, σ3, c3, r3, o3, e3⟩ := FnS.row hto (σ := σ2) (args := [.nilS]) rfl
      replace r1 := r1.old o3
      replace r2 := r2.old o3
      have := r1.lt
      have := r2.lt
      have := r3.lt
      obtain ⟨b4, σ4, c4, r4, o4, e4⟩ := FnO.row hI (σ := σ3) (args := [.int .i64 n, .sl b3 0 l.length l.length]) (mapO_cons rfl (mapO_cons (r3.frz rfl (Nat.le_refl _)) rfl))
      replace r1 := r1.old o4
      replace r2 := r2.old o4
      replace r3 := r3.old o4
      have c5 := v23 out out out.length out.length rfl rfl (by omega) σ4 [.sl b4 0 out.length out.length, .sl b2 0 out.length out.length] (mapO_cons (r4.frz rfl (Nat.le_refl _)) (mapO_cons (r2.frz rfl (Nat.le_refl _)) rfl))
      simp only [decide_true] at c5
      have := r1.lt
      have := r2.lt
      have := r3.lt
      have := r4.lt
      obtain ⟨b6, σ6, c6, r6, o6, e6⟩ := FnS.row hto (σ := σ4) (args := [.nilS]) rfl
      replace r1 := r1.old o6
      replace r2 := r2.old o6
      replace r3 := r3.old o6
      replace r4 := r4.old o6
      have c7 := v23 l l l.length l.length rfl rfl (by omega) σ6 [.sl b3 0 l.length l.length, .sl b6 0 l.length l.length] (mapO_cons (r3.frz rfl (Nat.le_refl _)) (mapO_cons (r6.frz rfl (Nat.le_refl _)) rfl))
      simp only [decide_true] at c7
      obtain ⟨σ8, c8, q8, u8⟩ := m24 σ6 b3 l.length 1 l rfl (by omega) (by omega) r3
      replace r1 := r1.but (by omega) u8
      replace r2 := r2.but (by omega) u8
      replace r4 := r4.but (by omega) u8
      replace r6 := r6.but (by omega) u8
      have z8 := u8.1
      have c9 := v23 out out out.length out.length rfl rfl (by omega) σ8 [.sl b4 0 out.length out.length, .sl b2 0 out.length out.length] (mapO_cons (r4.frz rfl (Nat.le_refl _)) (mapO_cons (r2.frz rfl (Nat.le_refl _)) rfl))
      simp only [decide_true] at c9
      obtain ⟨σ10, c10, q10, u10⟩ := m24 σ8 b4 out.length 1 out rfl (by omega) (by omega) r4
      replace r1 := r1.but (by omega) u10
      replace r2 := r2.but (by omega) u10
      replace q8 := q8.but (by omega) u10
      replace r6 := r6.but (by omega) u10
      have z10 := u10.1
      have c11 := v25 out.length 1 (by omega) (by omega) σ10 [.sl b4 0 out.length out.length, .int .i64 (1 : Nat)] (mapO_cons (q10.frz (iotaF_length _ _).symm (Nat.le_refl _)) rfl)
      have := r1.lt
      have := r2.lt
      have := q8.lt
      have := q10.lt
      have := r6.lt
      obtain ⟨b12, σ12, c12, r12, o12, e12⟩ := FnS.row hto (σ := σ10) (args := [.nilS]) rfl
      replace r1 := r1.old o12
      replace r2 := r2.old o12
      replace q8 := q8.old o12
      replace q10 := q10.old o12
      replace r6 := r6.old o12
      have := r1.lt
      have := r2.lt
      have := q8.lt
      have := q10.lt
      have := r6.lt
      have := r12.lt
      obtain ⟨b13, σ13, c13, r13, o13, e13⟩ := FnO.row hI (σ := σ12) (args := [.int .i64 n, .sl b12 0 l.length l.length]) (mapO_cons rfl (mapO_cons (r12.frz rfl (Nat.le_refl _)) rfl))
      replace r1 := r1.old o13
      replace r2 := r2.old o13
      replace q8 := q8.old o13
      replace q10 := q10.old o13
      replace r6 := r6.old o13
      replace r12 := r12.old o13
      have c14 := v23 out out out.length out.length rfl rfl (by omega) σ13 [.sl b13 0 out.length out.length, .sl b2 0 out.length out.length] (mapO_cons (r13.frz rfl (Nat.le_refl _)) (mapO_cons (r2.frz rfl (Nat.le_refl _)) rfl))
      simp only [decide_true] at c14
      have c15 := v25 out.length 1 (by omega) (by omega) σ13 [.sl b4 0 out.length out.length, .int .i64 (1 : Nat)] (mapO_cons (q10.frz (iotaF_length _ _).symm (Nat.le_refl _)) rfl)
      refine ⟨σ13, ?_⟩
      clear hS hI
      simp only [show ((1 : Nat) : Int) = 1 from rfl, Int.natCast_add] at c1 c2 c3 c4 c5 c6 c7 c8 c9 c10 c11 c12 c13 c14 c15
      have hz1 : (0 : Int) ≤ 1 + (l.length : Int) := by omega
      have hbg : (l.length : Int) ≤ 1048576 := by omega
      have hz2 : (0 : Int) ≤ 1 + (out.length : Int) := by omega
      simp [xI_seq, xI_region, xI_ret, regA, regOps, runOps, opStep, wantedA, opA, evo, evos, calleeA, lk, nif_eq, putE, paramsE, valS, val2, keepE, restrict, finA, resA, binA, binInt, ofConst, ofConst1, loadA, TK.isAgg, asVar, unA, builtinA, lenOpA, lenA, ileb_cast, ileb_eq, ieqb_dec, indexAddrA, inB_dec, evPairs, storeA, AV.cellsOf, pairsOf, xI_nil, binBool, gcE, evOpt, xI_block, xI_loopH, xI_condM, xI_exitM, xI_skip, xI_blk, exitA, ty2, ty3, ty4, ty22, c1, c2, c3, c4, c5, c6, c7, c8, c9, c10, c11, c12, c13, c14, c15, hz1, hbg, hz2]
end Go.Proofs.Ytaniaeefijgaiaa
