/- Contracts behind the law of registers of machines, laid out of the texts of the same hand. Nothing is claimed here; no condition. -/
import Derived.Test.YthkdbkjkccogfaaDoorTb
set_option linter.unusedSimpArgs false
set_option linter.unusedVariables false
namespace Go.Proofs.YthkdbkjkccogfaaDoor
open Go Go.Abs
open Go.Wd
noncomputable def b127 : Code := Tryd.f127.body.getD .skip
noncomputable def B127_0 : Code := (bodyC (bodyC (sndC (fstC (sndC (sndC b127))))))
noncomputable def K127_0 : List It := .lp B127_0 :: .blk 0 :: .code (sndC (sndC (sndC b127))) :: []
theorem xl127_0 {fi : FI} {env : Env} {σ : St} : exI TT fi K127_0 env σ = exI TT fi (.code B127_0 :: K127_0) env σ := by unfold K127_0; exact xI_lp
noncomputable def R127_0_0 : List It := .code (sndC (sndC (sndC b127))) :: []
theorem eK127_0_0 : exitA 0 K127_0 = some R127_0_0 := rfl
set_option maxHeartbeats 1000000 in
theorem l127 (R : List Nat) (hR : ∀ r ∈ R, r < 65536) (len : Nat) (hlen : len = R.length) (hl16 : len ≤ 16) (s : Nat) (hs : s < 2 ^ 62) (σ : St) : ∀ (suf pre : List Nat) (out : Nat), R = pre ++ suf → out < 2 ^ pre.length →
    exI TT (FI.of Tryd.f127 (TT.an 127)) K127_0 [(1, .int .i64 s), (5, .int .i64 out), (8, .lst len (ints (nints R))), (9, .int .i64 len), (10, .int .i64 pre.length)] σ = some (.int .i64 (addN out (mulN (pw pre.length) (app suf s)) : Nat), σ) := by
  intro suf
  induction suf with
  | nil =>
    intro pre out hp ho
    have hx : addN out (mulN (pw pre.length) (app [] s)) = out := by simp [addN, mulN, app]
    have hl : len = pre.length := by rw [hlen, hp]; simp
    subst hl
    rw [fi127]
    rw [xl127_0]
    simp only [B127_0, b127, Tryd.f127, Option.getD, fstC, sndC, bodyC, thnC, elsC]
    simp [xI_seq, xI_region, xI_ret, regA, regOps, runOps, opStep, wantedA, opA, evo, evos, calleeA, lk, nif_eq, putE, paramsE, valS, val2, keepE, restrict, finA, resA, binA, binInt, ofConst, ofConst1, loadA, TK.isAgg, asVar, unA, builtinA, lenOpA, lenA, ileb_cast, ileb_eq, ieqb_dec, indexAddrA, inB_dec, evPairs, storeA, AV.cellsOf, pairsOf, xI_nil, binBool, gcE, evOpt, tagZ, xI_block, xI_loopH, xI_condM, xI_exitM, xI_skip, xI_blk, exitA, ty2, ty3, ty24, eK127_0_0]
    simp only [R127_0_0, b127, Tryd.f127, Option.getD, fstC, sndC, bodyC, thnC, elsC]
    simp [xI_seq, xI_region, xI_ret, regA, regOps, runOps, opStep, wantedA, opA, evo, evos, calleeA, lk, nif_eq, putE, paramsE, valS, val2, keepE, restrict, finA, resA, binA, binInt, ofConst, ofConst1, loadA, TK.isAgg, asVar, unA, builtinA, lenOpA, lenA, ileb_cast, ileb_eq, ieqb_dec, indexAddrA, inB_dec, evPairs, storeA, AV.cellsOf, pairsOf, xI_nil, binBool, gcE, evOpt, tagZ, xI_block, xI_loopH, xI_condM, xI_exitM, xI_skip, xI_blk, exitA, ty2, ty3, ty24, eK127_0_0, hx]
  | cons r suf ih =>
    intro pre out hp ho
    have hll : len = pre.length + (suf.length + 1) := by rw [hlen, hp]; simp
    have hr : r < 65536 := hR r (by simp [hp])
    have hrs : andN r s < 65536 := Nat.lt_of_le_of_lt Nat.and_le_left hr
    have hg : (nints R)[pre.length]? = some (r : Int) := nints_get (by simp [hp])
    have hlt : ¬ len ≤ pre.length := by omega
    have hlt2 : pre.length < len := by omega
    have hw := wrapS (n := pre.length) (by omega)
    have hcu : wrapA .u64 ((pre.length : Nat) : Int) = ((pre.length : Nat) : Int) := n_wrapu (by omega)
    have h16 : 2 ^ pre.length ≤ 2 ^ 16 := Nat.pow_le_pow_right (by decide) (by omega)
    have a1 := n_and (a := r) (b := s) (by omega) (lt_62 hs)
    have a2 := c126 (andN r s) hrs σ
    have hpl := par_lt (andN r s)
    have hps : par (andN r s) * 2 ^ pre.length ≤ 1 * 2 ^ pre.length := Nat.mul_le_mul_right _ (by omega)
    have a3 := sh_l (a := par (andN r s)) (b := pre.length) (by omega) (by omega)
    have a4 := n_or (a := out) (b := shlN (par (andN r s)) pre.length) (by omega) (by show par (andN r s) * 2 ^ pre.length ≤ _; omega)
    have e1 : orN out (shlN (par (andN r s)) pre.length) = out + 2 ^ pre.length * par (andN r s) := or_shift ho
    have e2 : orN out (shlN (par (andN r s)) pre.length) < 2 ^ (pre ++ [r]).length := by
      rw [e1, List.length_append, List.length_singleton, Nat.pow_succ, Nat.mul_comm]; omega
    have h1 := ih (pre ++ [r]) _ (by simp [hp]) e2
    rw [show addN (orN out (shlN (par (andN r s)) pre.length)) (mulN (pw (pre ++ [r]).length) (app suf s)) = addN out (mulN (pw pre.length) (app (r :: suf) s)) by
      rw [e1]; show _ + 2 ^ (pre ++ [r]).length * app suf s = out + 2 ^ pre.length * (par (r &&& s) + 2 * app suf s)
      rw [List.length_append, List.length_singleton, Nat.pow_succ, Nat.mul_add, Nat.mul_assoc, Nat.add_assoc]; rfl] at h1
    simp only [List.length_append, List.length_singleton] at h1
    rw [fi127] at h1 ⊢
    rw [xl127_0]
    simp only [B127_0, b127, Tryd.f127, Option.getD, fstC, sndC, bodyC, thnC, elsC]
    simp [xI_seq, xI_region, xI_ret, regA, regOps, runOps, opStep, wantedA, opA, evo, evos, calleeA, lk, nif_eq, putE, paramsE, valS, val2, keepE, restrict, finA, resA, binA, binInt, ofConst, ofConst1, loadA, TK.isAgg, asVar, unA, builtinA, lenOpA, lenA, ileb_cast, ileb_eq, ieqb_dec, indexAddrA, inB_dec, evPairs, storeA, AV.cellsOf, pairsOf, xI_nil, binBool, gcE, evOpt, tagZ, xI_block, xI_loopH, xI_condM, xI_exitM, xI_skip, xI_blk, exitA, ty2, ty3, ty24, eK127_0_0, hw, hlt, hlt2, a1, a2, a3, a4, lst_read hg]
    simpa using h1
theorem v127 (R : List Nat) (hR : ∀ r ∈ R, r < 65536) (hl16 : R.length ≤ 16) (s : Nat) (hs : s < 2 ^ 62) : FnV TT 127 [.lst R.length (ints (nints R)), .int .i64 s] (.int .i64 (app R s : Nat)) := by
  refine FnV.mk fn127 rfl md127 ⟨⟨[], 0⟩, ?_⟩ (fun _ => rfl) rfl
  have h := l127 R hR R.length rfl hl16 s hs ⟨[], 0⟩ R [] 0 rfl (by decide)
  rw [show addN 0 (mulN (pw ([] : List Nat).length) (app R s)) = app R s by simp [addN, mulN, pw]] at h
  rw [← h, fi127]
  simp [xI_seq, xI_region, xI_ret, regA, regOps, runOps, opStep, wantedA, opA, evo, evos, calleeA, lk, nif_eq, putE, paramsE, valS, val2, keepE, restrict, finA, resA, binA, binInt, ofConst, ofConst1, loadA, TK.isAgg, asVar, unA, builtinA, lenOpA, lenA, ileb_cast, ileb_eq, ieqb_dec, indexAddrA, inB_dec, evPairs, storeA, AV.cellsOf, pairsOf, xI_nil, binBool, gcE, evOpt, tagZ, xI_block, xI_loopH, xI_condM, xI_exitM, xI_skip, xI_blk, exitA, ty2, ty3, ty24, eK127_0_0]
  rfl

open Go.Wd
/-- A machine's cells. -/
def lin (w : Int) (R : List Int) (o : Int) : List AV := [.int .i64 w, .lst R.length (ints R), .int .i64 o]
/-- Whether a machine is valid. -/
def vlin (w : Int) (R : List Int) (o : Int) : Bool := inR w 1 16 && decide ((R.length : Int) = w) && allR R 0 (((pw w.toNat : Nat) : Int) - 1) && inR o 0 (((pw w.toNat : Nat) : Int) - 1)
/-- Whether it is, and a number is a state of it. -/
def vst (w : Int) (R : List Int) (o s : Int) : Bool := vlin w R o && inR s 0 (((pw w.toNat : Nat) : Int) - 1)
theorem vlin_nat {w : Int} {R : List Int} {o : Int} (h : vlin w R o = true) : ∃ (A : List Nat) (k : Nat), w = (A.length : Int) ∧ R = nints A ∧ o = (k : Int) ∧ 1 ≤ A.length ∧ A.length ≤ 16 ∧ (∀ r ∈ A, r < pw A.length) ∧ k < pw A.length := by
  simp only [vlin, Bool.and_eq_true, decide_eq_true_eq] at h
  obtain ⟨⟨⟨h1, h2⟩, h3⟩, h4⟩ := h
  have h1 := inR_iff.1 h1
  have h4 := inR_iff.1 h4
  have h3 := allR_spec h3
  obtain ⟨A, rfl⟩ := of_nonneg (l := R) fun x hx => (h3 x hx).1
  rw [nints_length] at h2
  obtain rfl := h2.symm
  refine ⟨A, o.toNat, rfl, rfl, by omega, by omega, by omega, fun r hr => ?_, ?_⟩
  · have := h3 r (List.mem_map.2 ⟨r, hr, rfl⟩)
    simp only [Int.toNat_natCast] at this
    omega
  · simp only [Int.toNat_natCast] at h4
    omega
theorem vst_nat {w : Int} {R : List Int} {o s : Int} (h : vst w R o s = true) : ∃ (A : List Nat) (k t : Nat), w = (A.length : Int) ∧ R = nints A ∧ o = (k : Int) ∧ s = (t : Int) ∧ 1 ≤ A.length ∧ A.length ≤ 16 ∧ (∀ r ∈ A, r < pw A.length) ∧ k < pw A.length ∧ t < pw A.length := by
  simp only [vst, Bool.and_eq_true] at h
  obtain ⟨A, k, h1, h2, h3, h4, h5, h6, h7⟩ := vlin_nat h.1
  have := inR_iff.1 h.2
  refine ⟨A, k, s.toNat, h1, h2, h3, by omega, h4, h5, h6, h7, ?_⟩
  rw [h1, Int.toNat_natCast] at this
  omega
theorem v125 (w : Int) (R : List Int) (o : Int) (hs : R.length < 3000000) : FnV TT 125 [.agg (lin w R o)] (.bool (vlin w R o)) := by
  refine FnV.mk fn125 rfl md125 ⟨(⟨[], 0⟩ : St).push ⟨lin w R o, 3, false⟩, ?_⟩ (fun _ => rfl) rfl
  generalize hσ : (⟨[], 0⟩ : St).push ⟨lin w R o, 3, false⟩ = σ
  have hcp : cellsAt σ (.ptr 0 0) 1 = some [.int .i64 w] := by subst hσ; rfl
  have hcp1 : cellsAt σ (.ptr 0 1) 1 = some [.lst R.length (ints R)] := by subst hσ; rfl
  have hcp2 : cellsAt σ (.ptr 0 2) 1 = some [.int .i64 o] := by subst hσ; rfl
  have hi := c69 w 1 16 σ
  have hl : callI TT 93 [.lst R.length (ints R)] σ = some (.int .i64 R.length, σ) := v93 R R.length σ _ rfl
  rw [fi125]
  cases h1 : inR w 1 16 with
  | false =>
    rw [h1] at hi
    simp only [lin] at hσ ⊢
    simp [xI_seq, xI_region, xI_ret, regA, regOps, runOps, opStep, wantedA, opA, evo, evos, calleeA, lk, nif_eq, putE, paramsE, valS, val2, keepE, restrict, finA, resA, binA, binInt, ofConst, ofConst1, loadA, TK.isAgg, asVar, unA, builtinA, lenOpA, lenA, ileb_cast, ileb_eq, ieqb_dec, indexAddrA, inB_dec, evPairs, storeA, AV.cellsOf, pairsOf, xI_nil, binBool, gcE, evOpt, tagZ, xI_block, xI_loopH, xI_condM, xI_exitM, xI_skip, xI_blk, exitA, ty2, ty24, ty51, runTr, pairsOk, pairOk, lstAt, lastOf, sameVal, AV.eqv, eqvs, eqvs_ints, regOps, blt_dec, cond_true, cond_false, fieldAddrA, allOne, AV.one, n_push, ty2, ty24, ty48, ty51, hσ, hcp, hcp1, hcp2, hi]
    simp [vlin, h1]
  | true =>
    rw [h1] at hi
    have h1' := inR_iff.1 h1
    obtain ⟨k, rfl⟩ : ∃ k : Nat, w = k := ⟨w.toNat, by omega⟩
    have hk : k ≤ 16 := by omega
    have e2 := sh_1 (b := k) (by omega)
    have e3 := pw_dec hk
    by_cases h2 : R.length = k
    · have ha : callI TT 94 [.lst R.length (ints R), .int .i64 0, .int .i64 (((pw k : Nat) : Int) - 1)] σ = some (.bool (allR R 0 (((pw k : Nat) : Int) - 1)), σ) := v94 R R.length rfl hs 0 _ σ _ rfl
      rw [h2] at ha hl hcp1
      have hi2 := c69 o 0 (((pw k : Nat) : Int) - 1) σ
      simp only [lin, h2] at hσ ⊢
      cases h4 : allR R 0 (((pw k : Nat) : Int) - 1) with
      | false =>
        rw [h4] at ha
        simp [xI_seq, xI_region, xI_ret, regA, regOps, runOps, opStep, wantedA, opA, evo, evos, calleeA, lk, nif_eq, putE, paramsE, valS, val2, keepE, restrict, finA, resA, binA, binInt, ofConst, ofConst1, loadA, TK.isAgg, asVar, unA, builtinA, lenOpA, lenA, ileb_cast, ileb_eq, ieqb_dec, indexAddrA, inB_dec, evPairs, storeA, AV.cellsOf, pairsOf, xI_nil, binBool, gcE, evOpt, tagZ, xI_block, xI_loopH, xI_condM, xI_exitM, xI_skip, xI_blk, exitA, ty2, ty24, ty51, runTr, pairsOk, pairOk, lstAt, lastOf, sameVal, AV.eqv, eqvs, eqvs_ints, regOps, blt_dec, cond_true, cond_false, fieldAddrA, allOne, AV.one, n_push, ty2, ty24, ty48, ty51, hσ, hcp, hcp1, hcp2, hi, hl, ha, e2, e3]
        simp [vlin, h1, h2, h4]
      | true =>
        rw [h4] at ha
        simp [xI_seq, xI_region, xI_ret, regA, regOps, runOps, opStep, wantedA, opA, evo, evos, calleeA, lk, nif_eq, putE, paramsE, valS, val2, keepE, restrict, finA, resA, binA, binInt, ofConst, ofConst1, loadA, TK.isAgg, asVar, unA, builtinA, lenOpA, lenA, ileb_cast, ileb_eq, ieqb_dec, indexAddrA, inB_dec, evPairs, storeA, AV.cellsOf, pairsOf, xI_nil, binBool, gcE, evOpt, tagZ, xI_block, xI_loopH, xI_condM, xI_exitM, xI_skip, xI_blk, exitA, ty2, ty24, ty51, runTr, pairsOk, pairOk, lstAt, lastOf, sameVal, AV.eqv, eqvs, eqvs_ints, regOps, blt_dec, cond_true, cond_false, fieldAddrA, allOne, AV.one, n_push, ty2, ty24, ty48, ty51, hσ, hcp, hcp1, hcp2, hi, hl, ha, e2, e3, hi2]
        simp [vlin, h1, h2, h4]
    · have h2' : ¬ (R.length : Int) = k := by omega
      simp only [lin] at hσ ⊢
      simp [xI_seq, xI_region, xI_ret, regA, regOps, runOps, opStep, wantedA, opA, evo, evos, calleeA, lk, nif_eq, putE, paramsE, valS, val2, keepE, restrict, finA, resA, binA, binInt, ofConst, ofConst1, loadA, TK.isAgg, asVar, unA, builtinA, lenOpA, lenA, ileb_cast, ileb_eq, ieqb_dec, indexAddrA, inB_dec, evPairs, storeA, AV.cellsOf, pairsOf, xI_nil, binBool, gcE, evOpt, tagZ, xI_block, xI_loopH, xI_condM, xI_exitM, xI_skip, xI_blk, exitA, ty2, ty24, ty51, runTr, pairsOk, pairOk, lstAt, lastOf, sameVal, AV.eqv, eqvs, eqvs_ints, regOps, blt_dec, cond_true, cond_false, fieldAddrA, allOne, AV.one, n_push, ty2, ty24, ty48, ty51, hσ, hcp, hcp1, hcp2, hi, hl, h2, h2']
      simp [vlin, h1, h2, h2']

theorem v78 (w : Int) (R : List Int) (o s : Int) (hs : R.length < 3000000) : FnV TT 78 [.agg (lin w R o), .int .i64 s] (.bool (vst w R o s)) := by
  refine FnV.mk fn78 rfl md78 ⟨(⟨[], 0⟩ : St).push ⟨lin w R o, 3, false⟩, ?_⟩ (fun _ => rfl) rfl
  generalize hσ : (⟨[], 0⟩ : St).push ⟨lin w R o, 3, false⟩ = σ
  have hcp : cellsAt σ (.ptr 0 0) 1 = some [.int .i64 w] := by subst hσ; rfl
  have hcp3 : cellsAt σ (.ptr 0 0) 3 = some [.int .i64 w, .lst R.length (ints R), .int .i64 o] := by subst hσ; rfl
  have h : callI TT 125 [.agg [.int .i64 w, .lst R.length (ints R), .int .i64 o]] σ = some (.bool (vlin w R o), σ) := v125 w R o hs σ _ rfl
  rw [fi78]
  simp only [lin] at hσ ⊢
  cases h1 : vlin w R o with
  | false =>
    rw [h1] at h
    simp [xI_seq, xI_region, xI_ret, regA, regOps, runOps, opStep, wantedA, opA, evo, evos, calleeA, lk, nif_eq, putE, paramsE, valS, val2, keepE, restrict, finA, resA, binA, binInt, ofConst, ofConst1, loadA, TK.isAgg, asVar, unA, builtinA, lenOpA, lenA, ileb_cast, ileb_eq, ieqb_dec, indexAddrA, inB_dec, evPairs, storeA, AV.cellsOf, pairsOf, xI_nil, binBool, gcE, evOpt, tagZ, xI_block, xI_loopH, xI_condM, xI_exitM, xI_skip, xI_blk, exitA, ty2, ty51, runTr, pairsOk, pairOk, lstAt, lastOf, sameVal, AV.eqv, eqvs, eqvs_ints, regOps, blt_dec, cond_true, cond_false, fieldAddrA, allOne, AV.one, n_push, ty2, ty24, ty48, ty51, hσ, hcp, hcp3, h]
    simp [vst, h1]
  | true =>
    rw [h1] at h
    obtain ⟨A, k, rfl, rfl, rfl, h2, h3, _⟩ := vlin_nat h1
    have e2 := sh_1 (b := A.length) (by omega)
    have e3 := pw_dec h3
    have hi2 := c69 s 0 (((pw A.length : Nat) : Int) - 1) σ
    simp only [nints_length] at *
    simp [xI_seq, xI_region, xI_ret, regA, regOps, runOps, opStep, wantedA, opA, evo, evos, calleeA, lk, nif_eq, putE, paramsE, valS, val2, keepE, restrict, finA, resA, binA, binInt, ofConst, ofConst1, loadA, TK.isAgg, asVar, unA, builtinA, lenOpA, lenA, ileb_cast, ileb_eq, ieqb_dec, indexAddrA, inB_dec, evPairs, storeA, AV.cellsOf, pairsOf, xI_nil, binBool, gcE, evOpt, tagZ, xI_block, xI_loopH, xI_condM, xI_exitM, xI_skip, xI_blk, exitA, ty2, ty51, runTr, pairsOk, pairOk, lstAt, lastOf, sameVal, AV.eqv, eqvs, eqvs_ints, regOps, blt_dec, cond_true, cond_false, fieldAddrA, allOne, AV.one, n_push, ty2, ty24, ty48, ty51, hσ, hcp, hcp3, h, e2, e3, hi2]
    simp [vst, h1]

open Go.Wd
theorem lin_eq (w : Int) (R : List Int) (o : Int) : lin w R o = [.int .i64 w, .lst R.length (ints R), .int .i64 o] := rfl
def nats (R : List Int) : List Nat := R.map Int.toNat
theorem nats_nints (A : List Nat) : nats (nints A) = A := by
  induction A with
  | nil => rfl
  | cons x r ih => simp only [nats, nints, List.map_cons] at ih ⊢; rw [ih]; simp
theorem lt_16 {A : List Nat} {r : Nat} (h : A.length ≤ 16) (hr : r < pw A.length) : r < 65536 := Nat.lt_of_lt_of_le hr (pw_16 h)
theorem vst_nat' {w : Int} {R : List Int} {o s : Int} (h : vst w R o s = true) : ∃ (A : List Nat) (k t : Nat), w = (A.length : Int) ∧ R = nints A ∧ o = (k : Int) ∧ s = (t : Int) ∧ 1 ≤ A.length ∧ A.length ≤ 16 ∧ (∀ r ∈ A, r < 65536) ∧ k < 65536 ∧ t < 65536 ∧ t < pw A.length := by
  obtain ⟨A, k, t, h1, h2, h3, h4, h5, h6, h7, h8, h9⟩ := vst_nat h
  exact ⟨A, k, t, h1, h2, h3, h4, h5, h6, fun r hr => lt_16 h6 (h7 r hr), lt_16 h6 h8, lt_16 h6 h9, h9⟩

open Go.Wd
theorem app_16 {A : List Nat} (h : A.length ≤ 16) (s : Nat) : app A s < 65536 := Nat.lt_of_lt_of_le (app_lt A s) (Nat.pow_le_pow_right (by decide) h)
/-- The first outputs. -/
def outB (A : List Nat) (k : Nat) : Nat → Nat → List UInt8
  | 0, _ => []
  | m + 1, t => bb (par (andN k t)) :: outB A k m (app A t)
theorem outB_length (A : List Nat) (k : Nat) : ∀ m t, (outB A k m t).length = m
  | 0, _ => rfl
  | m + 1, t => by simp [outB, outB_length A k m]
def lbOk (w : Int) (R : List Int) (o s n : Int) : Bool := vst w R o s && inR n 0 400
def lbV (w : Int) (R : List Int) (o s n : Int) : List UInt8 := if lbOk w R o s n = true then outB (nats R) o.toNat n.toNat s.toNat else []
theorem lbV_no {w : Int} {R : List Int} {o s n : Int} (h : lbOk w R o s n = false) : lbV w R o s n = [] := by simp [lbV, h]
theorem lbV_yes {A : List Nat} {k t n : Nat} (h : lbOk (A.length : Int) (nints A) k t n = true) : lbV (A.length : Int) (nints A) k t n = outB A k n t := by simp [lbV, h, nats_nints]

noncomputable def b79 : Code := Tryd.f79.body.getD .skip
noncomputable def B79_0 : Code := (bodyC (bodyC (sndC (fstC (sndC (sndC b79))))))
noncomputable def K79_0 : List It := .lp B79_0 :: .blk 0 :: .code (sndC (sndC (sndC b79))) :: []
theorem xl79_0 {fi : FI} {env : Env} {σ : St} : exI TT fi K79_0 env σ = exI TT fi (.code B79_0 :: K79_0) env σ := by unfold K79_0; exact xI_lp
noncomputable def R79_0_0 : List It := .code (sndC (sndC (sndC b79))) :: []
theorem eK79_0_0 : exitA 0 K79_0 = some R79_0_0 := rfl
theorem l79 (A : List Nat) (k c : Nat) (h16 : A.length ≤ 16) (hA : ∀ r ∈ A, r < 65536) (hk : k < 65536) (hc : c ≤ 400) (p : Nat) (x : Blk) (hx : x.cells = lin A.length (nints A) k) : ∀ (m t : Nat) (l : List UInt8) (σ : St) (b : Nat), l.length + m = c → t < 65536 → σ.get p = some x → p < b → BRow σ b l →
    ∃ σ', exI TT (FI.of Tryd.f79 (TT.an 79)) K79_0 [(1, .int .i64 t), (3, .ptr p 0), (7, .sl b 0 l.length l.length), (9, .int .i64 c), (10, .int .i64 l.length)] σ = some (.str (l ++ outB A k m t), σ') ∧ σ.n ≤ σ'.n ∧ ∀ c, c < b → σ'.get c = σ.get c := by
  intro m
  induction m with
  | zero =>
    intro t l σ b hl ht hp hpb hr
    obtain rfl : c = l.length := by omega
    have hs := toStr hr rfl
    refine ⟨σ, ?_, Nat.le_refl _, fun _ _ => rfl⟩
    rw [fi79]
    rw [xl79_0]
    simp only [B79_0, b79, Tryd.f79, Option.getD, fstC, sndC, bodyC, thnC, elsC]
    simp [xI_seq, xI_region, xI_ret, regA, regOps, runOps, opStep, wantedA, opA, evo, evos, calleeA, lk, nif_eq, putE, paramsE, valS, val2, keepE, restrict, finA, resA, binA, binInt, ofConst, ofConst1, loadA, TK.isAgg, asVar, unA, builtinA, lenOpA, lenA, ileb_cast, ileb_eq, ieqb_dec, indexAddrA, inB_dec, evPairs, storeA, AV.cellsOf, pairsOf, xI_nil, binBool, gcE, evOpt, tagZ, xI_block, xI_loopH, xI_condM, xI_exitM, xI_skip, xI_blk, exitA, ty2, ty5, ty9, ty24, ty32, ty51, eK79_0_0]
    simp only [R79_0_0, b79, Tryd.f79, Option.getD, fstC, sndC, bodyC, thnC, elsC]
    simp [xI_seq, xI_region, xI_ret, regA, regOps, runOps, opStep, wantedA, opA, evo, evos, calleeA, lk, nif_eq, putE, paramsE, valS, val2, keepE, restrict, finA, resA, binA, binInt, ofConst, ofConst1, loadA, TK.isAgg, asVar, unA, builtinA, lenOpA, lenA, ileb_cast, ileb_eq, ieqb_dec, indexAddrA, inB_dec, evPairs, storeA, AV.cellsOf, pairsOf, xI_nil, binBool, gcE, evOpt, tagZ, xI_block, xI_loopH, xI_condM, xI_exitM, xI_skip, xI_blk, exitA, ty2, ty5, ty9, ty24, ty32, ty51, eK79_0_0, hs, outB]
  | succ m ih =>
    intro t l σ b hl ht hp hpb hr
    have hpl := par_lt (andN k t)
    have hx2 := hx
    rw [lin_eq] at hx2
    obtain ⟨σ1, ha, hr1, hn1, _, ho1⟩ := bappend (x := bb (par (andN k t))) ty32 ty5 hr rfl (by omega)
    have hbn : b < σ.n := hr.lt
    have hp1 : σ1.get p = some x := (ho1 p (by omega) (by omega)).trans hp
    have hcp1 : ∀ σ', σ'.get p = some x → cellsAt σ' (.ptr p 1) 1 = some [.lst A.length (ints (nints A))] := fun σ' hp => by simp [cellsAt, hp, hx2, getCells, takeN, dropN, nints_length]
    have hcp2 : cellsAt σ (.ptr p 2) 1 = some [.int .i64 k] := by simp [cellsAt, hp, hx2, getCells, takeN, dropN]
    have hcp1' := hcp1 σ1 hp1
    have hc1 := n_and (a := k) (b := t) (by omega) (by omega)
    have hle : andN k t ≤ k := Nat.and_le_left
    have hc2 := c126 (andN k t) (by omega) σ
    have hc3 := c115 (par (andN k t)) hpl σ
    have hc4 : callI TT 127 [.lst A.length (ints (nints A)), .int .i64 t] σ1 = some (.int .i64 (app A t : Nat), σ1) := v127 A hA h16 t (pow_62 ht) σ1 _ rfl
    obtain ⟨σ', h1, h2, h3⟩ := ih (app A t) (l ++ [bb (par (andN k t))]) σ1 (σ.n + 1) (by simp; omega) (app_16 h16 t) hp1 (by omega) hr1
    refine ⟨σ', ?_, by omega, fun c hc => (h3 c (by omega)).trans (ho1 c (by omega) (by omega))⟩
    rw [show l ++ outB A k (m + 1) t = l ++ [bb (par (andN k t))] ++ outB A k m (app A t) by simp [outB]]
    simp only [List.length_append, List.length_singleton] at h1
    have hlt : ¬ c ≤ l.length := by omega
    have hlt2 : l.length < c := by omega
    have hw := wrapS (n := l.length) (by omega)
    rw [fi79] at h1 ⊢
    rw [xl79_0]
    simp only [B79_0, b79, Tryd.f79, Option.getD, fstC, sndC, bodyC, thnC, elsC]
    simp [xI_seq, xI_region, xI_ret, regA, regOps, runOps, opStep, wantedA, opA, evo, evos, calleeA, lk, nif_eq, putE, paramsE, valS, val2, keepE, restrict, finA, resA, binA, binInt, ofConst, ofConst1, loadA, TK.isAgg, asVar, unA, builtinA, lenOpA, lenA, ileb_cast, ileb_eq, ieqb_dec, indexAddrA, inB_dec, evPairs, storeA, AV.cellsOf, pairsOf, xI_nil, binBool, gcE, evOpt, tagZ, xI_block, xI_loopH, xI_condM, xI_exitM, xI_skip, xI_blk, exitA, ty2, ty5, ty9, ty24, ty32, ty51, eK79_0_0, hlt, hlt2, hw, ha, bb1, hcp1', hcp2, hc1, hc2, hc3, hc4, fieldAddrA, allOne, AV.one, n_push, ty2, ty24, ty48, ty51]
    simpa using h1

theorem v79 (A : List Nat) (k c t : Nat) (h16 : A.length ≤ 16) (hA : ∀ r ∈ A, r < 65536) (hk : k < 65536) (hc : c ≤ 400) (ht : t < 65536) : FnV TT 79 [.agg (lin A.length (nints A) k), .int .i64 t, .int .i64 c] (.str (outB A k c t)) := by
  obtain ⟨σ', h, _⟩ := l79 A k c h16 hA hk hc 0 _ rfl c t [] (((⟨[], 0⟩ : St).push ⟨lin A.length (nints A) k, 3, false⟩).push ⟨intsOf [], 1, false⟩) 1 (by simp) ht rfl (by decide) (BRow.push ((⟨[], 0⟩ : St).push ⟨lin A.length (nints A) k, 3, false⟩) [])
  refine FnV.mk fn79 rfl md79 ⟨σ', ?_⟩ (fun _ => rfl) rfl
  rw [fi79]
  rw [fi79] at h
  simp only [List.nil_append, List.length_nil, Int.natCast_zero, show ((0 : Nat) : Int) = 0 from rfl] at h
  simp only [lin] at h ⊢
  simp [xI_seq, xI_region, xI_ret, regA, regOps, runOps, opStep, wantedA, opA, evo, evos, calleeA, lk, nif_eq, putE, paramsE, valS, val2, keepE, restrict, finA, resA, binA, binInt, ofConst, ofConst1, loadA, TK.isAgg, asVar, unA, builtinA, lenOpA, lenA, ileb_cast, ileb_eq, ieqb_dec, indexAddrA, inB_dec, evPairs, storeA, AV.cellsOf, pairsOf, xI_nil, binBool, gcE, evOpt, tagZ, xI_block, xI_loopH, xI_condM, xI_exitM, xI_skip, xI_blk, exitA, ty2, ty5, ty9, ty24, ty32, ty51, eK79_0_0, fieldAddrA, allOne, AV.one, n_push, ty2, ty24, ty48, ty51, bb0]
  exact h
theorem v35 (w : Int) (R : List Int) (o s n : Int) (hs : R.length < 3000000) : FnV TT 35 [.agg (lin w R o), .int .i64 s, .int .i64 n] (.tup [.str (lbV w R o s n), .bool (lbOk w R o s n)]) := by
  refine FnV.mk fn35 rfl md35 ?_ (fun _ => rfl) rfl
  obtain ⟨σ, hσ⟩ : ∃ σ, (⟨[], 0⟩ : St).push ⟨lin w R o, 3, false⟩ = σ := ⟨_, rfl⟩
  have hcp3 : cellsAt σ (.ptr 0 0) 3 = some [.int .i64 w, .lst R.length (ints R), .int .i64 o] := by subst hσ; rfl
  have h : callI TT 78 [.agg [.int .i64 w, .lst R.length (ints R), .int .i64 o], .int .i64 s] σ = some (.bool (vst w R o s), σ) := v78 w R o s hs σ _ rfl
  have hi := c69 n 0 400 σ
  rw [fi35]
  cases h1 : vst w R o s with
  | false =>
    rw [h1] at h
    have hj : lbOk w R o s n = false := by simp [lbOk, h1]
    rw [lbV_no hj, hj]
    simp only [lin] at hσ ⊢
    simp [xI_seq, xI_region, xI_ret, regA, regOps, runOps, opStep, wantedA, opA, evo, evos, calleeA, lk, nif_eq, putE, paramsE, valS, val2, keepE, restrict, finA, resA, binA, binInt, ofConst, ofConst1, loadA, TK.isAgg, asVar, unA, builtinA, lenOpA, lenA, ileb_cast, ileb_eq, ieqb_dec, indexAddrA, inB_dec, evPairs, storeA, AV.cellsOf, pairsOf, xI_nil, binBool, gcE, evOpt, tagZ, xI_block, xI_loopH, xI_condM, xI_exitM, xI_skip, xI_blk, exitA, ty4, ty51, fieldAddrA, allOne, AV.one, n_push, ty2, ty24, ty48, ty51, hσ, hcp3, h]
  | true =>
    rw [h1] at h
    obtain ⟨A, k, t, rfl, rfl, rfl, rfl, h2, h3, h4, h5, h6, h7⟩ := vst_nat' h1
    cases h8 : inR n 0 400 with
    | false =>
      rw [h8] at hi
      have hj : lbOk (A.length : Int) (nints A) k t n = false := by simp [lbOk, h1, h8]
      rw [lbV_no hj, hj]
      simp only [lin] at hσ ⊢
      simp [xI_seq, xI_region, xI_ret, regA, regOps, runOps, opStep, wantedA, opA, evo, evos, calleeA, lk, nif_eq, putE, paramsE, valS, val2, keepE, restrict, finA, resA, binA, binInt, ofConst, ofConst1, loadA, TK.isAgg, asVar, unA, builtinA, lenOpA, lenA, ileb_cast, ileb_eq, ieqb_dec, indexAddrA, inB_dec, evPairs, storeA, AV.cellsOf, pairsOf, xI_nil, binBool, gcE, evOpt, tagZ, xI_block, xI_loopH, xI_condM, xI_exitM, xI_skip, xI_blk, exitA, ty4, ty51, fieldAddrA, allOne, AV.one, n_push, ty2, ty24, ty48, ty51, hσ, hcp3, h, hi]
    | true =>
      rw [h8] at hi
      have hn := inR_iff.1 h8
      obtain ⟨m, rfl⟩ : ∃ m : Nat, n = m := ⟨n.toNat, by omega⟩
      have hj : lbOk (A.length : Int) (nints A) k t m = true := by simp [lbOk, h1, h8]
      rw [lbV_yes hj, hj]
      have e1 : callI TT 79 [.agg [.int .i64 A.length, .lst A.length (ints (nints A)), .int .i64 k], .int .i64 t, .int .i64 m] σ = some (.str (outB A k m t), σ) := v79 A k m t h3 h4 h5 (by omega) h6 σ _ (by rw [lin_eq, nints_length]; rfl)
      simp only [nints_length] at hcp3 h
      simp only [lin, nints_length] at hσ ⊢
      simp [xI_seq, xI_region, xI_ret, regA, regOps, runOps, opStep, wantedA, opA, evo, evos, calleeA, lk, nif_eq, putE, paramsE, valS, val2, keepE, restrict, finA, resA, binA, binInt, ofConst, ofConst1, loadA, TK.isAgg, asVar, unA, builtinA, lenOpA, lenA, ileb_cast, ileb_eq, ieqb_dec, indexAddrA, inB_dec, evPairs, storeA, AV.cellsOf, pairsOf, xI_nil, binBool, gcE, evOpt, tagZ, xI_block, xI_loopH, xI_condM, xI_exitM, xI_skip, xI_blk, exitA, ty4, ty51, fieldAddrA, allOne, AV.one, n_push, ty2, ty24, ty48, ty51, hσ, hcp3, h, hi, e1]

open Go.Wd
/-- What is told of a machine and a state. -/
noncomputable def roV (w : Int) (R : List Int) (o s : Int) : AV :=
  if vst w R o s = true then srV (outB (nats R) o.toNat (2 * w.toNat) s.toNat) else .tup [.agg [.int .i64 0, .int .i64 0], .int .i64 0, .bool false]
theorem roV_frz (w : Int) (R : List Int) (o s : Int) (σ : St) : frzV σ frzDepth (roV w R o s) = some (roV w R o s) := by
  unfold roV; split
  · exact srV_frz _ σ
  · rfl
theorem roV_scal (w : Int) (R : List Int) (o s : Int) : (roV w R o s).scal = true := by
  unfold roV; split
  · exact srV_scal _
  · rfl
theorem roV_no {w : Int} {R : List Int} {o s : Int} (h : vst w R o s = false) : roV w R o s = .tup [.agg [.int .i64 0, .int .i64 0], .int .i64 0, .bool false] := by simp [roV, h]
theorem roV_yes {A : List Nat} {k t : Nat} (h : vst (A.length : Int) (nints A) k t = true) : roV (A.length : Int) (nints A) k t = srV (outB A k (2 * A.length) t) := by simp [roV, h, nats_nints]
theorem srV_form (l : List UInt8) : ∃ a b c : Int, ∃ d : Bool, srV l = .tup [.agg [.int .i64 a, .int .i64 b], .int .i64 c, .bool d] := by
  unfold srV; split
  · exact ⟨_, _, _, _, rfl⟩
  · exact ⟨_, _, _, _, rfl⟩
theorem v31 (w : Int) (R : List Int) (o s : Int) (hs : R.length < 3000000) : FnV TT 31 [.agg (lin w R o), .int .i64 s] (roV w R o s) := by
  refine FnV.mk fn31 rfl md31 ?_ (roV_frz w R o s) (roV_scal w R o s)
  obtain ⟨σ, hσ⟩ : ∃ σ, (⟨[], 0⟩ : St).push ⟨lin w R o, 3, false⟩ = σ := ⟨_, rfl⟩
  have hg : σ.get 0 = some ⟨lin w R o, 3, false⟩ := by subst hσ; rfl
  have hn : σ.n = 1 := by subst hσ; rfl
  obtain ⟨τ, hτ⟩ : ∃ τ, σ.push ⟨[.int .i64 0, .int .i64 0], 2, false⟩ = τ := ⟨_, rfl⟩
  have hgt : τ.get 0 = some ⟨lin w R o, 3, false⟩ := by subst hτ; exact (get_push_lt (by omega)).trans hg
  have g0 : RGB τ 1 0 0 := by
    have h := get_push_same (σ := σ) (x := ⟨[.int .i64 0, .int .i64 0], 2, false⟩)
    rw [hn] at h; subst hτ; exact h
  have h : callI TT 78 [.agg [.int .i64 w, .lst R.length (ints R), .int .i64 o], .int .i64 s] τ = some (.bool (vst w R o s), τ) := v78 w R o s hs τ _ rfl
  have hcp : cellsAt τ (.ptr 0 0) 1 = some [.int .i64 w] := by simp [cellsAt, hgt, lin_eq, getCells, takeN, dropN]
  have hcp3 : cellsAt τ (.ptr 0 0) 3 = some [.int .i64 w, .lst R.length (ints R), .int .i64 o] := by simp [cellsAt, hgt, lin_eq, getCells, takeN, dropN]
  rw [fi31]
  cases h1 : vst w R o s with
  | false =>
    rw [h1] at h
    rw [roV_no h1]
    obtain ⟨σ1, s1, g1, _, _⟩ := g0.s2 0 0
    have p1 := g1.cc
    refine ⟨σ1, ?_⟩
    simp only [lin] at hσ ⊢
    simp [xI_seq, xI_region, xI_ret, regA, regOps, runOps, opStep, wantedA, opA, evo, evos, calleeA, lk, nif_eq, putE, paramsE, valS, val2, keepE, restrict, finA, resA, binA, binInt, ofConst, ofConst1, loadA, TK.isAgg, asVar, unA, builtinA, lenOpA, lenA, ileb_cast, ileb_eq, ieqb_dec, indexAddrA, inB_dec, evPairs, storeA, AV.cellsOf, pairsOf, xI_nil, binBool, gcE, evOpt, tagZ, xI_block, xI_loopH, xI_condM, xI_exitM, xI_skip, xI_blk, exitA, ty2, ty4, ty27, ty51, runTr, pairsOk, pairOk, lstAt, lastOf, sameVal, AV.eqv, eqvs, eqvs_ints, regOps, blt_dec, cond_true, cond_false, fieldAddrA, allOne, AV.one, buildA, sizesOf, fillA, putCells, n_push, indexA, ty2, ty27, ty9, ty5, ty36, ty24, ty51, hσ, hn, hτ, h, hcp3, s1, p1]
  | true =>
    rw [h1] at h
    obtain ⟨A, k, t, rfl, rfl, rfl, rfl, h2, h3, h4, h5, h6, h7⟩ := vst_nat' h1
    rw [roV_yes h1]
    obtain ⟨W, hW⟩ : ∃ W, 2 * A.length = W := ⟨_, rfl⟩
    rw [hW]
    have e1 : callI TT 79 [.agg [.int .i64 A.length, .lst A.length (ints (nints A)), .int .i64 k], .int .i64 t, .int .i64 W] τ = some (.str (outB A k W t), τ) := v79 A k W t h3 h4 h5 (by omega) h6 τ _ (by rw [lin_eq, nints_length]; rfl)
    have e2 := v26 (outB A k W t) (by rw [outB_length]; omega) τ [.str (outB A k W t)] rfl
    obtain ⟨a, b, c, d, e3⟩ := srV_form (outB A k W t)
    rw [e3] at e2 ⊢
    have hw2 : wrapA .i64 (2 * (A.length : Int)) = (W : Int) := by rw [wrapA_id (by omega) (by omega)]; omega
    obtain ⟨σ1, s1, g1, _, _⟩ := g0.s2 a b
    have p1 := g1.cc
    refine ⟨σ1, ?_⟩
    simp only [nints_length] at hcp3 h
    simp only [lin, nints_length] at hσ ⊢
    generalize outB A k W t = z at *
    simp [xI_seq, xI_region, xI_ret, regA, regOps, runOps, opStep, wantedA, opA, evo, evos, calleeA, lk, nif_eq, putE, paramsE, valS, val2, keepE, restrict, finA, resA, binA, binInt, ofConst, ofConst1, loadA, TK.isAgg, asVar, unA, builtinA, lenOpA, lenA, ileb_cast, ileb_eq, ieqb_dec, indexAddrA, inB_dec, evPairs, storeA, AV.cellsOf, pairsOf, xI_nil, binBool, gcE, evOpt, tagZ, xI_block, xI_loopH, xI_condM, xI_exitM, xI_skip, xI_blk, exitA, ty2, ty4, ty27, ty51, runTr, pairsOk, pairOk, lstAt, lastOf, sameVal, AV.eqv, eqvs, eqvs_ints, regOps, blt_dec, cond_true, cond_false, fieldAddrA, allOne, AV.one, buildA, sizesOf, fillA, putCells, n_push, indexA, ty2, ty27, ty9, ty5, ty36, ty24, ty51, hσ, hn, hτ, h, hcp, hcp3, hw2, e1, e2, s1, p1]

open Go.Wd
theorem outR_bits (w t : Nat) : ∀ m n, (outR w t m n).all isBit = true
  | 0, _ => rfl
  | m + 1, n => by
    rw [outR, List.all_cons, outR_bits w t m]
    rw [isBit_nat, bb_nat (rbit_lt w n)]
    have := rbit_lt w n
    generalize rbit w n = r at *
    have : r = 0 ∨ r = 1 := by omega
    rcases this with rfl | rfl <;> rfl
theorem bb_isBit {r : Nat} (h : r < 2) : isBit (bb r) = true := by
  have : r = 0 ∨ r = 1 := by omega
  rcases this with rfl | rfl <;> rfl
/-- The least taps are taps. -/
theorem bmT_gen {l : List UInt8} (h64 : bmL l < 64) : bmT l < 2 ^ bmL l ∧ Gen (bmL l) (bmT l).testBit (bitf l) l.length := by
  obtain ⟨R, hR⟩ := adY h64
  have hT := bmT_eq h64 hR
  obtain ⟨_, _, _, hred, hsol⟩ := (addAll_can h64 (es := eqL l (bmL l)) eqL_lt).2 R hR
  obtain ⟨h1, h2, _⟩ := least_sol h64 hred
  rw [hT] at h1 h2
  have h3 := (hsol _).1 h1
  have h4 := (sol_gen (s := bitf l) (n := l.length) h64 (full_lt h2).1 (full_lt h2).2).1 h3
  refine ⟨h2, fun t ht => ?_⟩
  rw [h4 t ht]
  exact xs_congr _ (fun i hi => by rw [full_low hi])
/-- A register that starts with the first bits of a text that has its recurrence outputs the text. -/
theorem gen_out {l : List UInt8} (hb : l.all isBit = true) {w t : Nat} (hw : w ≤ 64) (hwl : w ≤ l.length) (ht : t < 2 ^ w) (hg : Gen w t.testBit (bitf l) l.length) : outR w t l.length (ofB w (bitf l)) = l := by
  have hS := ofB_lt (bitf l) w
  refine bits_ext (outR_bits _ _ _ _) hb (outR_length _ _ _ _) fun i hi => ?_
  rw [outR_length] at hi
  rw [bitf_out hi]
  refine gen_same (regS_gen hw ht hS l.length) hg (fun _ _ => rfl) (fun i hi _ => ?_) i hi
  rw [regS_first hS hi, ofB_testBit]; simp [hi]
open Go.Wd
theorem units_append : ∀ (k a : Nat), units a (k + 1) = units a k ++ [2 ^ (a + k)]
  | 0, a => by simp [units]
  | k + 1, a => by rw [units, units_append k (a + 1), units]; simp; congr 1; omega
open Go.Wd
/-- A function that hands over a machine of its own. -/
def linR (r : Option (Int × List Int × Int)) (σ : St) (q : Bool) : AV × St :=
  match r with
  | some (w, l, o) => (.tup [.agg [.int .i64 w, .sl σ.n 0 l.length l.length, .int .i64 o], .bool true], σ.push ⟨ints l, 1, q⟩)
  | none => (.tup [.agg [.int .i64 0, .nilS, .int .i64 0], .bool false], σ)
def FnM (T : Tab) (f : FuncId) (args' : List AV) (r : Option (Int × List Int × Int)) : Prop := ∀ (σ : St) (args : List AV), mapO (frzV σ frzDepth) args = some args' → ∃ q, callI T f args σ = some (linR r σ q)
theorem FnM.mkS {T : Tab} {f : FuncId} {F : Func} {c : Code} {args' : List AV} {l : List Int} {w o : Int} (hF : T.fn f = Option.some F) (hB : F.body = Option.some c) (hm : (T.an f).mode = 2)
    (hx : ∃ σ1 b q, exI T (FI.of F (T.an f)) [.code c] (paramsE 0 args') ⟨[], 0⟩ = Option.some (.tup [.agg [.int .i64 w, .sl b 0 l.length l.length, .int .i64 o], .bool true], σ1) ∧ σ1.get b = Option.some ⟨ints l, 1, q⟩) : FnM T f args' (Option.some (w, l, o)) := by
  intro σ args ha
  obtain ⟨σ1, b, q, hx, hb⟩ := hx
  refine ⟨q, cI_2 hF hB hm ha hx ?_⟩
  have h1 : ownL (ownV σ1 5) σ [] [.int .i64 w, .sl b 0 l.length l.length, .int .i64 o] = some ([.int .i64 w, .sl σ.n 0 l.length l.length, .int .i64 o], σ.push ⟨ints l, 1, q⟩, [b]) := by
    have h0 : ∀ (x : Int) (σ : St) (u : List Nat), ownV σ1 5 σ u (.int .i64 x) = some (.int .i64 x, σ, u) := fun _ _ _ => rfl
    simp only [ownL, h0, own1_ints (d := 3) (used := []) hb rfl]
  have h2 : ownV σ1 6 σ [] (.agg [.int .i64 w, .sl b 0 l.length l.length, .int .i64 o]) = some (.agg [.int .i64 w, .sl σ.n 0 l.length l.length, .int .i64 o], σ.push ⟨ints l, 1, q⟩, [b]) := by
    unfold ownV; simp only [h1]
  unfold ownR
  simp only [ownL, ownDepth, h2]
  rfl
theorem FnM.mkN {T : Tab} {f : FuncId} {F : Func} {c : Code} {args' : List AV} (hF : T.fn f = Option.some F) (hB : F.body = Option.some c) (hm : (T.an f).mode = 2)
    (hx : ∃ σ1, exI T (FI.of F (T.an f)) [.code c] (paramsE 0 args') ⟨[], 0⟩ = Option.some (.tup [.agg [.int .i64 0, .nilS, .int .i64 0], .bool false], σ1)) : FnM T f args' Option.none := by
  intro σ args ha
  obtain ⟨σ1, hx⟩ := hx
  exact ⟨false, cI_2 hF hB hm ha hx rfl⟩
theorem FnM.row {T : Tab} {f : FuncId} {args' args : List AV} {l : List Int} {w o : Int} (h : FnM T f args' (Option.some (w, l, o))) {σ : St} (ha : mapO (frzV σ frzDepth) args = some args') :
    ∃ σ', callI T f args σ = some (.tup [.agg [.int .i64 w, .sl σ.n 0 l.length l.length, .int .i64 o], .bool true], σ') ∧ Row σ' σ.n l ∧ Old σ σ' ∧ σ'.n = σ.n + 1 := by
  obtain ⟨q, h⟩ := h σ args ha
  exact ⟨_, h, Row.push, Old.push, rfl⟩
theorem FnM.nil {T : Tab} {f : FuncId} {args' args : List AV} (h : FnM T f args' Option.none) {σ : St} (ha : mapO (frzV σ frzDepth) args = some args') : callI T f args σ = some (.tup [.agg [.int .i64 0, .nilS, .int .i64 0], .bool false], σ) := by
  obtain ⟨q, h⟩ := h σ args ha
  exact h
/-- A value laid in a cell of its own. -/
theorem boxed (σ : St) (a b c x y z : AV) (h : allOne [x, y, z] = true) : ∃ σ', storeCellsA (σ.push ⟨[a, b, c], 3, false⟩) σ.n 0 [x, y, z] = some σ' ∧ σ'.n = σ.n + 1 ∧ cellsAt σ' (.ptr σ.n 0) 3 = some [x, y, z] ∧ Old σ σ' := by
  refine ⟨(σ.push ⟨[a, b, c], 3, false⟩).set σ.n ⟨[x, y, z], 3, false⟩, ?_, rfl, ?_, ?_⟩
  · simp [storeCellsA, get_push_same, h, putN, overN]
  · simp [cellsAt, get_set_eq (get_push_same), getCells, takeN, dropN]
  · refine ⟨Nat.le_succ _, fun c hc => ?_⟩
    rw [get_set_ne (by omega), get_push_lt hc]
/-- The rows of a register's machine. -/
def regR (w t : Int) : Option (Int × List Int × Int) := if (vreg w t && !decide (w = 0)) = true then some (w, nints (units 1 (w.toNat - 1) ++ [t.toNat]), 1) else none
theorem regR_no {w t : Int} (h : (vreg w t && !decide (w = 0)) = false) : regR w t = none := by simp [regR, h]
theorem regR_yes {k : Nat} {t : Nat} (h : (vreg ((k + 1 : Nat) : Int) t && !decide (((k + 1 : Nat) : Int) = 0)) = true) : regR ((k + 1 : Nat) : Int) t = some (((k + 1 : Nat) : Int), nints (units 1 k ++ [t]), 1) := by
  unfold regR; rw [if_pos h]; simp
theorem reg_nat1 {w t : Int} (h : (vreg w t && !decide (w = 0)) = true) : ∃ k m : Nat, w = ((k + 1 : Nat) : Int) ∧ t = m ∧ k ≤ 15 ∧ m < 65536 := by
  simp only [Bool.and_eq_true, vreg, Bool.not_eq_true', decide_eq_false_iff_not] at h
  obtain ⟨⟨h1, h2⟩, h3⟩ := h
  have h1 := inR_iff.1 h1
  have h2 := inR_iff.1 h2
  have := pw_16 (k := w.toNat) (by omega)
  exact ⟨w.toNat - 1, t.toNat, by omega, by omega, by omega, by omega⟩
open Go.Wd
/-- A machine in the heap above the first two blocks, whose rows are none or a row of their own. -/
def MV (σ : St) (q : Nat) (w o : Int) (l : List Nat) (v : AV) : Prop := q < σ.n ∧ 2 ≤ q ∧ σ.get q = some ⟨[.int .i64 w, v, .int .i64 o], 3, false⟩ ∧ ((v = .nilS ∧ l = []) ∨ ∃ b, 2 ≤ b ∧ q ≠ b ∧ v = .sl b 0 l.length l.length ∧ Row σ b (nints l))
theorem append_nil {T : Tab} {σ : St} {x : Int} {st e : TypeId} (ht : T.ty st = some ⟨.slice e, 1, 24, [.nilS]⟩) (he : T.ty e = some ⟨.int .i64, 1, 8, [.int .i64 0]⟩) :
    appendA T (σ.push ⟨[.int .i64 x], 1, false⟩) st st .nilS (.sl σ.n 0 1 1) = some (.sl (σ.n + 1) 0 1 1, (σ.push ⟨[.int .i64 x], 1, false⟩).push ⟨[.int .i64 x], 1, true⟩) := by
  unfold appendA
  have h1 : firstA (σ.push ⟨[.int .i64 x], 1, false⟩) 1 1 (.sl σ.n 0 1 1) = some [.int .i64 x] := by
    simp [firstA, get_push_same, getCells, dropN, takeN]
  simp only [ht, he, lenA, h1, allOne, AV.one]
  simp [n_push, newE]
theorem MV.app {T : Tab} {σ : St} {q : Nat} {w o : Int} {l : List Nat} {x : Nat} {v : AV} {st e : TypeId} (ht : T.ty st = some ⟨.slice e, 1, 24, [.nilS]⟩) (he : T.ty e = some ⟨.int .i64, 1, 8, [.int .i64 0]⟩) (h : MV σ q w o l v) (hs : l.length < 1000000) :
    ∃ b' σ1 σ', appendA T (σ.push ⟨[.int .i64 (x : Int)], 1, false⟩) st st v (.sl σ.n 0 1 1) = some (.sl b' 0 (l.length + 1) (l.length + 1), σ1) ∧ storeCellsA σ1 q 1 [.sl b' 0 (l.length + 1) (l.length + 1)] = some σ' ∧ MV σ' q w o (l ++ [x]) (.sl b' 0 (l.length + 1) (l.length + 1)) ∧ Row σ' b' (nints (l ++ [x])) ∧ 2 ≤ b' ∧ ∀ c, c < 2 → σ'.get c = σ.get c := by
  obtain ⟨h1, h2, h3, h4⟩ := h
  have fin : ∀ σ1 : St, σ1.n = σ.n + 2 → σ1.get q = some ⟨[.int .i64 w, v, .int .i64 o], 3, false⟩ → Row σ1 (σ.n + 1) (nints (l ++ [x])) → (∀ c, c < 2 → σ1.get c = σ.get c) →
      ∃ σ', storeCellsA σ1 q 1 [.sl (σ.n + 1) 0 (l.length + 1) (l.length + 1)] = some σ' ∧ MV σ' q w o (l ++ [x]) (.sl (σ.n + 1) 0 (l.length + 1) (l.length + 1)) ∧ Row σ' (σ.n + 1) (nints (l ++ [x])) ∧ ∀ c, c < 2 → σ'.get c = σ.get c := by
    intro σ1 hn hq hr hc
    have hr' : Row (σ1.set q ⟨[.int .i64 w, .sl (σ.n + 1) 0 (l.length + 1) (l.length + 1), .int .i64 o], 3, false⟩) (σ.n + 1) (nints (l ++ [x])) := hr.keep (Nat.le_refl _) (get_set_ne (by omega))
    refine ⟨σ1.set q ⟨[.int .i64 w, .sl (σ.n + 1) 0 (l.length + 1) (l.length + 1), .int .i64 o], 3, false⟩, ?_, ⟨?_, h2, get_set_eq hq, .inr ⟨σ.n + 1, by omega, by omega, by simp, hr'⟩⟩, hr', ?_⟩
    · simp [storeCellsA, hq, allOne, AV.one, putN, overN]
    · rw [n_set, hn]; omega
    · intro c hc2
      rw [get_set_ne (by omega)]; exact hc c hc2
  rcases h4 with ⟨rfl, rfl⟩ | ⟨b, hb2, hbq, rfl, hr⟩
  · obtain ⟨σ', g1, g2, g3, g4⟩ := fin ((σ.push ⟨[.int .i64 (x : Int)], 1, false⟩).push ⟨[.int .i64 (x : Int)], 1, true⟩) rfl (by rw [get_push_lt (by rw [n_push]; omega), get_push_lt h1]; exact h3) ⟨true, get_push_same, Nat.lt_succ_self _⟩ (fun c hc => by rw [get_push_lt (by rw [n_push]; omega), get_push_lt (by omega)])
    exact ⟨σ.n + 1, _, σ', append_nil ht he, g1, g2, g3, by omega, g4⟩
  · obtain ⟨σ1, ha, hr1, hn, hu⟩ := nints_append_row (x := x) ht he hr (n := l.length) rfl (by omega)
    obtain ⟨σ', g1, g2, g3, g4⟩ := fin σ1 hn ((hu q hbq h1).trans h3) hr1 (fun c hc => hu c (by omega) (by omega))
    exact ⟨σ.n + 1, σ1, σ', ha, g1, g2, g3, by omega, g4⟩
theorem MV.cells {σ : St} {q : Nat} {w o : Int} {l : List Nat} {v : AV} (h : MV σ q w o l v) : cellsAt σ (.ptr q 1) 1 = some [v] := by
  obtain ⟨_, _, h3, _⟩ := h
  simp [cellsAt, h3, getCells, takeN, dropN]
theorem MV.cellsP {σ : St} {q : Nat} {w o : Int} {l : List Nat} {v : AV} (h : MV σ q w o l v) (x : Blk) : cellsAt (σ.push x) (.ptr q 1) 1 = some [v] := by
  obtain ⟨h1, _, h3, _⟩ := h
  simp [cellsAt, get_push_lt h1, h3, getCells, takeN, dropN]
theorem MV.all {σ : St} {q : Nat} {w o : Int} {l : List Nat} {v : AV} (h : MV σ q w o l v) : cellsAt σ (.ptr q 0) 3 = some [.int .i64 w, v, .int .i64 o] := by
  obtain ⟨_, _, h3, _⟩ := h
  simp [cellsAt, h3, getCells, takeN, dropN]
theorem MV.eqv {σ : St} {q : Nat} {w o : Int} {l : List Nat} {v : AV} (h : MV σ q w o l v) : v.eqv v = true := by
  obtain ⟨_, _, _, h4⟩ := h
  rcases h4 with ⟨rfl, _⟩ | ⟨b, _, _, rfl, _⟩ <;> simp [AV.eqv]
/-- The result's cell. -/
theorem res3 {σ : St} {x y z : AV} {a b c : AV} (h : σ.get 1 = some ⟨[a, b, c], 3, false⟩) (ho : allOne [x, y, z] = true) : ∃ σ', storeCellsA σ 1 0 [x, y, z] = some σ' ∧ cellsAt σ' (.ptr 1 0) 3 = some [x, y, z] ∧ ∀ d l, d ≠ 1 → Row σ d l → Row σ' d l := by
  refine ⟨σ.set 1 ⟨[x, y, z], 3, false⟩, ?_, ?_, fun d l hd hr => hr.keep (Nat.le_refl _) (get_set_ne (fun e => hd e.symm))⟩
  · simp [storeCellsA, h, ho, putN, overN]
  · simp [cellsAt, get_set_eq h, getCells, takeN, dropN]
theorem units1 (j : Nat) : units 1 j ++ [pw (j + 1)] = units 1 (j + 1) := by rw [units_append]; simp [pw, Nat.add_comm]


noncomputable def b36 : Code := Tryd.f36.body.getD .skip
noncomputable def B36_0 : Code := (bodyC (bodyC (sndC (fstC (sndC (sndC (sndC b36)))))))
noncomputable def K36_0 : List It := .lp B36_0 :: .blk 0 :: .code (sndC (sndC (sndC (sndC b36)))) :: []
theorem xl36_0 {fi : FI} {env : Env} {σ : St} : exI TT fi K36_0 env σ = exI TT fi (.code B36_0 :: K36_0) env σ := by unfold K36_0; exact xI_lp
noncomputable def R36_0_0 : List It := .code (sndC (sndC (sndC (sndC b36)))) :: []
theorem eK36_0_0 : exitA 0 K36_0 = some R36_0_0 := rfl
theorem l36 (k t q : Nat) (hk : k ≤ 15) (ht : t < 65536) : ∀ (m j : Nat) (v : AV) (σ : St), j + m = k → MV σ q ((k + 1 : Nat) : Int) 1 (units 1 j) v → σ.get 0 = some ⟨[.int .i64 ((k + 1 : Nat) : Int), .int .i64 t], 2, false⟩ → σ.get 1 = some ⟨[.int .i64 0, .nilS, .int .i64 0], 3, false⟩ →
    ∃ σ' b', exI TT (FI.of Tryd.f36 (TT.an 36)) K36_0 [(1, .ptr 0 0), (2, .ptr 1 0), (4, .ptr q 0), (20, .int .i64 k), (21, .int .i64 j)] σ = some (.tup [.agg [.int .i64 ((k + 1 : Nat) : Int), .sl b' 0 (k + 1) (k + 1), .int .i64 1], .bool true], σ') ∧ Row σ' b' (nints (units 1 k ++ [t])) := by
  intro m
  induction m with
  | zero =>
    intro j v σ hj hm h0 h1
    obtain rfl : j = k := by omega
    obtain ⟨b1, σ1, σ2, a1, a2, a3, a4, a5, a6⟩ := MV.app (x := t) ty24 ty2 hm (by simp [units_length]; omega)
    simp only [units_length] at a1 a2 a3
    have hc := hm.cells
    have hall := a3.all
    obtain ⟨σ3, b1', b2', b3'⟩ := res3 (x := .int .i64 ((j + 1 : Nat) : Int)) (y := .sl b1 0 (j + 1) (j + 1)) (z := .int .i64 1) ((a6 1 (by decide)).trans h1) rfl
    have hcw : cellsAt σ (.ptr 0 0) 1 = some [.int .i64 ((j + 1 : Nat) : Int)] := by simp [cellsAt, h0, getCells, takeN, dropN]
    have hct : cellsAt σ (.ptr 0 1) 1 = some [.int .i64 t] := by simp [cellsAt, h0, getCells, takeN, dropN]
    refine ⟨σ3, b1, ?_, b3' _ _ (by omega) a4⟩
    generalize hW : ((j + 1 : Nat) : Int) = W at *
    have hlt : ¬ ((j : Int) + 1 < W) := by omega
    have hlt2 : W ≤ (j : Int) + 1 := by omega
    rw [fi36]
    rw [xl36_0]
    simp only [B36_0, b36, Tryd.f36, Option.getD, fstC, sndC, bodyC, thnC, elsC]
    simp [xI_seq, xI_region, xI_ret, regA, regOps, runOps, opStep, wantedA, opA, evo, evos, calleeA, lk, nif_eq, putE, paramsE, valS, val2, keepE, restrict, finA, resA, binA, binInt, ofConst, ofConst1, loadA, TK.isAgg, asVar, unA, builtinA, lenOpA, lenA, ileb_cast, ileb_eq, ieqb_dec, indexAddrA, inB_dec, evPairs, storeA, AV.cellsOf, pairsOf, xI_nil, binBool, gcE, evOpt, tagZ, xI_block, xI_loopH, xI_condM, xI_exitM, xI_skip, xI_blk, exitA, ty2, ty4, ty24, ty27, ty51, eK36_0_0, fieldAddrA, allOne, AV.one, ty2, ty24, ty51, ty27, hcw, hlt, hlt2]
    simp only [R36_0_0, b36, Tryd.f36, Option.getD, fstC, sndC, bodyC, thnC, elsC]
    simp [xI_seq, xI_region, xI_ret, regA, regOps, runOps, opStep, wantedA, opA, evo, evos, calleeA, lk, nif_eq, putE, paramsE, valS, val2, keepE, restrict, finA, resA, binA, binInt, ofConst, ofConst1, loadA, TK.isAgg, asVar, unA, builtinA, lenOpA, lenA, ileb_cast, ileb_eq, ieqb_dec, indexAddrA, inB_dec, evPairs, storeA, AV.cellsOf, pairsOf, xI_nil, binBool, gcE, evOpt, tagZ, xI_block, xI_loopH, xI_condM, xI_exitM, xI_skip, xI_blk, exitA, ty2, ty4, ty24, ty27, ty51, eK36_0_0, fieldAddrA, allOne, AV.one, ty2, ty24, ty51, ty27, hc, hct, bs1, a1, a2, hall, b1', b2']
  | succ m ih =>
    intro j v σ hj hm h0 h1
    obtain ⟨b1, σ1, σ2, a1, a2, a3, a4, a5, a6⟩ := MV.app (x := pw (j + 1)) ty24 ty2 hm (by simp [units_length]; omega)
    rw [units1] at a3
    simp only [units_length] at a1 a2 a3
    have hc := hm.cells
    have hcp := hm.cellsP
    have hqv := hm.eqv
    obtain ⟨σ', b', g1, g2⟩ := ih (j + 1) (.sl b1 0 (j + 1) (j + 1)) σ2 (by omega) a3 ((a6 0 (by decide)).trans h0) ((a6 1 (by decide)).trans h1)
    have hcw : cellsAt σ (.ptr 0 0) 1 = some [.int .i64 ((k + 1 : Nat) : Int)] := by simp [cellsAt, h0, getCells, takeN, dropN]
    refine ⟨σ', b', ?_, g2⟩
    generalize hW : ((k + 1 : Nat) : Int) = W at *
    have hlt : (j : Int) + 1 < W := by omega
    have hlt2 : ¬ W ≤ (j : Int) + 1 := by omega
    have hlt3 : j < k := by omega
    have hlt4 : ¬ k ≤ j := by omega
    have hw := wrapS (n := j) (by omega)
    have hw2 := wrapS (n := j + 1) (by omega)
    have e1 := sh_1 (b := j + 1) (by omega)
    have e2 : wrapA .u64 ((j : Int) + 1) = (j : Int) + 1 := by have := n_wrapu (a := j + 1) (by omega); simpa using this
    have e3 : ((j : Int) + 1).toNat = j + 1 := by omega
    have e4 : ¬ ((j : Int) + 1 < 0) := by omega
    have e5 : (0 : Int) ≤ (j : Int) + 1 := by omega
    simp only [Int.natCast_add, show ((1 : Nat) : Int) = 1 from rfl] at g1 hw2
    rw [fi36] at g1 ⊢
    rw [xl36_0]
    simp only [B36_0, b36, Tryd.f36, Option.getD, fstC, sndC, bodyC, thnC, elsC]
    simp [xI_seq, xI_region, xI_ret, regA, regOps, runOps, opStep, wantedA, opA, evo, evos, calleeA, lk, nif_eq, putE, paramsE, valS, val2, keepE, restrict, finA, resA, binA, binInt, ofConst, ofConst1, loadA, TK.isAgg, asVar, unA, builtinA, lenOpA, lenA, ileb_cast, ileb_eq, ieqb_dec, indexAddrA, inB_dec, evPairs, storeA, AV.cellsOf, pairsOf, xI_nil, binBool, gcE, evOpt, tagZ, xI_block, xI_loopH, xI_condM, xI_exitM, xI_skip, xI_blk, exitA, ty2, ty4, ty24, ty27, ty51, eK36_0_0, runTr, pairsOk, pairOk, lstAt, lastOf, sameVal, AV.eqv, eqvs, eqvs_ints, regOps, blt_dec, cond_true, cond_false, fieldAddrA, allOne, AV.one, ty2, ty24, ty51, ty27, ty36, hcw, hlt, hlt2, hlt3, hlt4, hw, hw2, e1, e2, e3, e4, e5, convA, hc, hcp, hqv, bs1, a1, a2]
    simpa using g1

theorem o36 (w t : Int) : FnM TT 36 [.agg [.int .i64 w, .int .i64 t]] (regR w t) := by
  obtain ⟨σ, hσ⟩ : ∃ σ, ((⟨[], 0⟩ : St).push ⟨[.int .i64 w, .int .i64 t], 2, false⟩).push ⟨[.int .i64 0, .nilS, .int .i64 0], 3, false⟩ = σ := ⟨_, rfl⟩
  have g0 : σ.get 0 = some ⟨[.int .i64 w, .int .i64 t], 2, false⟩ := by subst hσ; rfl
  have hcw : cellsAt σ (.ptr 0 0) 1 = some [.int .i64 w] := by simp [cellsAt, g0, getCells, takeN, dropN]
  have hcw2 : cellsAt σ (.ptr 0 0) 2 = some [.int .i64 w, .int .i64 t] := by simp [cellsAt, g0, getCells, takeN, dropN]
  have hi : callI TT 62 [.agg [.int .i64 w, .int .i64 t]] σ = some (.bool (vreg w t), σ) := v62 w t σ _ rfl
  have g1 : σ.get 1 = some ⟨[.int .i64 0, .nilS, .int .i64 0], 3, false⟩ := by subst hσ; rfl
  have hn : σ.n = 2 := by subst hσ; rfl
  obtain ⟨σn, n1, n2, _⟩ := res3 (x := .int .i64 0) (y := .nilS) (z := .int .i64 0) g1 rfl
  cases hv : (vreg w t && !decide (w = 0)) with
  | false =>
    rw [regR_no hv]
    refine FnM.mkN fn36 rfl md36 ⟨σn, ?_⟩
    rw [fi36]
    cases h1 : vreg w t with
    | false =>
      rw [h1] at hi
      simp [xI_seq, xI_region, xI_ret, regA, regOps, runOps, opStep, wantedA, opA, evo, evos, calleeA, lk, nif_eq, putE, paramsE, valS, val2, keepE, restrict, finA, resA, binA, binInt, ofConst, ofConst1, loadA, TK.isAgg, asVar, unA, builtinA, lenOpA, lenA, ileb_cast, ileb_eq, ieqb_dec, indexAddrA, inB_dec, evPairs, storeA, AV.cellsOf, pairsOf, xI_nil, binBool, gcE, evOpt, tagZ, xI_block, xI_loopH, xI_condM, xI_exitM, xI_skip, xI_blk, exitA, ty2, ty4, ty24, ty27, ty51, eK36_0_0, fieldAddrA, buildA, sizesOf, fillA, putCells, allOne, AV.one, n_push, ty2, ty24, ty51, ty27, hσ, hi, hcw2, n1, n2]
    | true =>
      rw [h1] at hi hv
      have hw0 : w = 0 := by simpa using hv
      subst hw0
      simp [xI_seq, xI_region, xI_ret, regA, regOps, runOps, opStep, wantedA, opA, evo, evos, calleeA, lk, nif_eq, putE, paramsE, valS, val2, keepE, restrict, finA, resA, binA, binInt, ofConst, ofConst1, loadA, TK.isAgg, asVar, unA, builtinA, lenOpA, lenA, ileb_cast, ileb_eq, ieqb_dec, indexAddrA, inB_dec, evPairs, storeA, AV.cellsOf, pairsOf, xI_nil, binBool, gcE, evOpt, tagZ, xI_block, xI_loopH, xI_condM, xI_exitM, xI_skip, xI_blk, exitA, ty2, ty4, ty24, ty27, ty51, eK36_0_0, fieldAddrA, buildA, sizesOf, fillA, putCells, allOne, AV.one, n_push, ty2, ty24, ty51, ty27, hσ, hi, hcw, hcw2, n1, n2]
  | true =>
    obtain ⟨k, m, rfl, rfl, hk, hm⟩ := reg_nat1 hv
    rw [regR_yes hv]
    simp only [Bool.and_eq_true] at hv
    rw [hv.1] at hi
    have hw0 : ¬ ((k + 1 : Nat) : Int) = 0 := by omega
    obtain ⟨σ2, s2, n2', q2, o2⟩ := boxed σ (.int .i64 0) .nilS (.int .i64 0) (.int .i64 ((k + 1 : Nat) : Int)) .nilS (.int .i64 1) rfl
    rw [hn] at s2 n2' q2
    have g0' : σ2.get 0 = some ⟨[.int .i64 ((k + 1 : Nat) : Int), .int .i64 m], 2, false⟩ := by rw [o2.2 0 (by omega), ← g0]
    have g1' : σ2.get 1 = some ⟨[.int .i64 0, .nilS, .int .i64 0], 3, false⟩ := by rw [o2.2 1 (by omega), ← g1]
    have g3' : σ2.get 2 = some ⟨[.int .i64 ((k + 1 : Nat) : Int), .nilS, .int .i64 1], 3, false⟩ := by
      have s2' := s2
      simp only [storeCellsA, hn ▸ get_push_same (σ := σ), allOne, AV.one, putN, overN, Bool.and_self] at s2'
      cases s2'
      rw [get_set_eq (hn ▸ get_push_same (σ := σ))]
    have hmv : MV σ2 2 ((k + 1 : Nat) : Int) 1 (units 1 0) .nilS := ⟨by omega, by omega, g3', .inl ⟨rfl, rfl⟩⟩
    obtain ⟨σ', b', e1, q, e2, _⟩ := l36 k m 2 hk hm k 0 _ σ2 (by omega) hmv g0' g1'
    refine FnM.mkS fn36 rfl md36 ⟨σ', b', q, ?_, e2⟩
    rw [nints_length, show (units 1 k ++ [m]).length = k + 1 by simp [units_length], ← e1, fi36]
    have hcw' : cellsAt σ2 (.ptr 0 0) 1 = some [.int .i64 ((k + 1 : Nat) : Int)] := by simp [cellsAt, g0', getCells, takeN, dropN]
    have hw1 : wrapA .i64 (((k + 1 : Nat) : Int) - 1) = (k : Int) := by rw [wrapA_id (by omega) (by omega)]; omega
    generalize ((k + 1 : Nat) : Int) = W at *
    simp [xI_seq, xI_region, xI_ret, regA, regOps, runOps, opStep, wantedA, opA, evo, evos, calleeA, lk, nif_eq, putE, paramsE, valS, val2, keepE, restrict, finA, resA, binA, binInt, ofConst, ofConst1, loadA, TK.isAgg, asVar, unA, builtinA, lenOpA, lenA, ileb_cast, ileb_eq, ieqb_dec, indexAddrA, inB_dec, evPairs, storeA, AV.cellsOf, pairsOf, xI_nil, binBool, gcE, evOpt, tagZ, xI_block, xI_loopH, xI_condM, xI_exitM, xI_skip, xI_blk, exitA, ty2, ty4, ty24, ty27, ty51, eK36_0_0, fieldAddrA, buildA, sizesOf, fillA, putCells, allOne, AV.one, n_push, ty2, ty24, ty51, ty27, hσ, hi, hcw, hcw2, hcw', hw0, hw1, hn, s2]
    rfl

open Go.Wd
def xsOk (w a b c : Int) : Bool := inR w 1 16 && (inR a 0 w && inR b 0 w && inR c 0 w)
def xsL (w a b c : Nat) : List Nat := (List.range w).map fun i => bitRow w a b c i w
def xsR (w a b c : Int) : Option (Int × List Int × Int) := if xsOk w a b c = true then some (w, nints (xsL w.toNat a.toNat b.toNat c.toNat), 1) else none
theorem xsR_no {w a b c : Int} (h : xsOk w a b c = false) : xsR w a b c = none := by simp [xsR, h]
theorem xsR_yes {w a b c : Nat} (h : xsOk w a b c = true) : xsR w a b c = some ((w : Int), nints (xsL w a b c), 1) := by simp [xsR, h]
theorem xs_nat {w a b c : Int} (h : xsOk w a b c = true) : ∃ w' a' b' c' : Nat, w = w' ∧ a = a' ∧ b = b' ∧ c = c' ∧ 1 ≤ w' ∧ w' ≤ 16 ∧ a' ≤ w' ∧ b' ≤ w' ∧ c' ≤ w' := by
  simp only [xsOk, Bool.and_eq_true] at h
  obtain ⟨h1, ⟨h2, h3⟩, h4⟩ := h
  have h1 := inR_iff.1 h1
  have h2 := inR_iff.1 h2
  have h3 := inR_iff.1 h3
  have h4 := inR_iff.1 h4
  exact ⟨w.toNat, a.toNat, b.toNat, c.toNat, by omega, by omega, by omega, by omega, by omega, by omega, by omega, by omega, by omega⟩
theorem res0 {σ : St} {x y z : AV} {a b c : AV} (h : σ.get 0 = some ⟨[a, b, c], 3, false⟩) (ho : allOne [x, y, z] = true) : ∃ σ', storeCellsA σ 0 0 [x, y, z] = some σ' ∧ cellsAt σ' (.ptr 0 0) 3 = some [x, y, z] ∧ ∀ d l, 0 < d → Row σ d l → Row σ' d l := by
  refine ⟨σ.set 0 ⟨[x, y, z], 3, false⟩, ?_, ?_, fun d l hd hr => hr.keep (Nat.le_refl _) (get_set_ne (by omega))⟩
  · simp [storeCellsA, h, ho, putN, overN]
  · simp [cellsAt, get_set_eq h, getCells, takeN, dropN]
/-- A move up within a width. -/
def upN (n k w : Nat) : Nat := modN (shlN n k) (pw w)
theorem v128u (n k w : Nat) (hn : n < 65536) (hk : k ≤ 16) (hw : w ≤ 16) : FnV TT 128 [.int .i64 n, .int .i64 k, .int .i64 w] (.int .i64 (upN n k w : Nat)) := by
  refine FnV.mk fn128 rfl md128 ⟨⟨[], 0⟩, ?_⟩ (fun _ => rfl) rfl
  have hpk : 2 ^ k ≤ 65536 := pw_16 hk
  have hl : n * 2 ^ k ≤ 65535 * 65536 := Nat.mul_le_mul (by omega) hpk
  have hp := pw_16 hw
  have hpp := pw_pos w
  have u1 := n_wrapu (a := k) (by omega)
  have u2 := n_wrapu (a := w) (by omega)
  have s1 := sh_l (a := n) (b := k) (by omega) (by omega)
  have s2 := sh_1 (b := w) (by omega)
  have s3 : wrapA .i64 (((pw w : Nat) : Int) - 1) = ((subN (pw w) 1 : Nat) : Int) := by rw [pw_dec hw]; show _ = ((pw w - 1 : Nat) : Int); omega
  have s4 := n_and (a := shlN n k) (b := subN (pw w) 1) (by show n * 2 ^ k ≤ _; omega) (by show pw w - 1 ≤ _; omega)
  rw [show andN (shlN n k) (subN (pw w) 1) = upN n k w from Nat.and_two_pow_sub_one_eq_mod _ w] at s4
  have c1 : ¬ (k : Int) < 0 := by omega
  rw [fi128]
  simp [xI_seq, xI_region, xI_ret, regA, regOps, runOps, opStep, wantedA, opA, evo, evos, calleeA, lk, nif_eq, putE, paramsE, valS, val2, keepE, restrict, finA, resA, binA, binInt, ofConst, ofConst1, loadA, TK.isAgg, asVar, unA, builtinA, lenOpA, lenA, ileb_cast, ileb_eq, ieqb_dec, indexAddrA, inB_dec, evPairs, storeA, AV.cellsOf, pairsOf, xI_nil, binBool, gcE, evOpt, tagZ, xI_block, xI_loopH, xI_condM, xI_exitM, xI_skip, xI_blk, exitA, ty2, ty36, u1, u2, s1, s2, s3, s4, c1, convA, ty36]
theorem v128d (n k w : Nat) (hn : n < 65536) (hk : k ≤ 16) (hk1 : 1 ≤ k) : FnV TT 128 [.int .i64 n, .int .i64 (-(k : Int)), .int .i64 w] (.int .i64 (shrN n k : Nat)) := by
  refine FnV.mk fn128 rfl md128 ⟨⟨[], 0⟩, ?_⟩ (fun _ => rfl) rfl
  have c1 : -(k : Int) < 0 := by omega
  have c2 : 0 < k := by omega
  have c3 : ¬ k = 0 := by omega
  have n1 : wrapA .i64 (k : Int) = k := n_wrap (by omega)
  have u1 := n_wrapu (a := k) (by omega)
  have s1 := sh_r (a := n) (b := k) (by omega)
  rw [fi128]
  simp [xI_seq, xI_region, xI_ret, regA, regOps, runOps, opStep, wantedA, opA, evo, evos, calleeA, lk, nif_eq, putE, paramsE, valS, val2, keepE, restrict, finA, resA, binA, binInt, ofConst, ofConst1, loadA, TK.isAgg, asVar, unA, builtinA, lenOpA, lenA, ileb_cast, ileb_eq, ieqb_dec, indexAddrA, inB_dec, evPairs, storeA, AV.cellsOf, pairsOf, xI_nil, binBool, gcE, evOpt, tagZ, xI_block, xI_loopH, xI_condM, xI_exitM, xI_skip, xI_blk, exitA, ty2, ty36, u1, s1, n1, c1, c2, c3, convA, ty36]
/-- A move down, as the reference makes it. -/
def dnN (n k w : Nat) : Nat := if k = 0 then upN n 0 w else shrN n k
theorem dn_eq {n k w : Nat} (hn : n < 2 ^ w) : dnN n k w = n / 2 ^ k := by
  unfold dnN
  split
  · rename_i h; subst h
    show n * 2 ^ 0 % 2 ^ w = n / 2 ^ 0
    rw [Nat.pow_zero, Nat.mul_one, Nat.div_one, Nat.mod_eq_of_lt hn]
  · rfl
theorem v128n (n k w : Nat) (hn : n < 65536) (hk : k ≤ 16) (hw : w ≤ 16) : FnV TT 128 [.int .i64 n, .int .i64 (-(k : Int)), .int .i64 w] (.int .i64 (dnN n k w : Nat)) := by
  by_cases h : k = 0
  · subst h
    rw [show dnN n 0 w = upN n 0 w by simp [dnN]]
    exact v128u n 0 w hn (by decide) hw
  · rw [show dnN n k w = shrN n k by simp [dnN, h]]
    exact v128d n k w hn hk (by omega)

open Go.Wd
theorem mod_le (a : Nat) : modN a 2 ≤ 1 := by
  have : modN a 2 < 2 := Nat.mod_lt _ (by decide)
  omega
noncomputable def b80 : Code := Tryd.f80.body.getD .skip
noncomputable def B80_0 : Code := (bodyC (bodyC (sndC (fstC (sndC (sndC (sndC b80)))))))
noncomputable def K80_0 : List It := .lp B80_0 :: .blk 0 :: .code (sndC (sndC (sndC (sndC b80)))) :: []
theorem xl80_0 {fi : FI} {env : Env} {σ : St} : exI TT fi K80_0 env σ = exI TT fi (.code B80_0 :: K80_0) env σ := by unfold K80_0; exact xI_lp
noncomputable def R80_0_0 : List It := .code (sndC (sndC (sndC (sndC b80)))) :: []
theorem eK80_0_0 : exitA 0 K80_0 = some R80_0_0 := rfl
noncomputable def B80_1 : Code := (bodyC (bodyC (sndC (sndC (sndC (sndC (sndC (bodyC (fstC (sndC (bodyC (bodyC (sndC (fstC (sndC (sndC (sndC b80)))))))))))))))))
noncomputable def K80_1 : List It := .lp B80_1 :: .blk 2 :: .blk 1 :: .code (sndC (sndC (bodyC (bodyC (sndC (fstC (sndC (sndC (sndC b80))))))))) :: K80_0
theorem xl80_1 {fi : FI} {env : Env} {σ : St} : exI TT fi K80_1 env σ = exI TT fi (.code B80_1 :: K80_1) env σ := by unfold K80_1; exact xI_lp
noncomputable def R80_1_2 : List It := .blk 1 :: .code (sndC (sndC (bodyC (bodyC (sndC (fstC (sndC (sndC (sndC b80))))))))) :: K80_0
theorem eK80_1_2 : exitA 2 K80_1 = some R80_1_2 := rfl
noncomputable def R80_1_1 : List It := .code (sndC (sndC (bodyC (bodyC (sndC (fstC (sndC (sndC (sndC b80))))))))) :: K80_0
theorem eK80_1_1 : exitA 1 K80_1 = some R80_1_1 := rfl
theorem eK80_1_0 : exitA 0 K80_1 = some R80_0_0 := rfl
/-- The rows while column k is told, up to row i. -/
def xin (w a b c k i : Nat) : List Nat := (List.range w).map fun j => if j < i then bitRow w a b c j (k + 1) else bitRow w a b c j k
theorem xin_zero (w a b c k : Nat) : xin w a b c k 0 = (List.range w).map fun j => bitRow w a b c j k := by
  unfold xin; exact List.map_congr_left fun j _ => by simp
theorem xin_full (w a b c k : Nat) : xin w a b c k w = (List.range w).map fun j => bitRow w a b c j (k + 1) := by
  unfold xin; exact List.map_congr_left fun j hj => by rw [if_pos (List.mem_range.1 hj)]
theorem xin_get {w a b c k i : Nat} (h : i < w) : (xin w a b c k i)[i]? = some (bitRow w a b c i k) := by simp [xin, h]
theorem xin_set {w a b c k i : Nat} (h : i < w) : (xin w a b c k i).set i (bitRow w a b c i (k + 1)) = xin w a b c k (i + 1) := by
  refine List.ext_getElem? fun j => ?_
  rw [List.getElem?_set]
  simp only [xin, List.length_map, List.length_range]
  by_cases hj : i = j
  · subst hj; simp [h]
  · rw [if_neg hj]
    by_cases hjw : j < w
    · simp only [List.getElem?_map, List.getElem?_range hjw, Option.map_some]
      congr 1
      by_cases h1 : j < i
      · rw [if_pos h1, if_pos (by omega)]
      · rw [if_neg h1, if_neg (by omega)]
    · simp [hjw]
theorem bit_16 {w a b c i k : Nat} (h : k ≤ 16) : bitRow w a b c i k < 65536 := Nat.lt_of_lt_of_le (bitRow_lt w a b c i k) (Nat.pow_le_pow_right (by decide) h)
theorem l80b (w a b c k : Nat) (hw : w ≤ 16) (hk : k < w) (x : Nat) (hx : x = shifts w a b c (2 ^ k)) (hxl : x < 2 ^ w) (q2 : St → Prop) : ∀ (m i : Nat) (σ : St), i + m = w → σ.get 2 = some ⟨[.int .i64 w, .sl 1 0 w w, .int .i64 1], 3, false⟩ → Row σ 1 (nints (xin w a b c k i)) →
    ∃ σ', exI TT (FI.of Tryd.f80 (TT.an 80)) K80_1 [(0, .int .i64 w), (1, .int .i64 a), (2, .int .i64 b), (3, .int .i64 c), (8, .ptr 0 0), (10, .ptr 2 0), (11, .int .i64 k), (12, .int .i64 x), (13, .int .i64 i)] σ =
      exI TT (FI.of Tryd.f80 (TT.an 80)) R80_1_2 [(0, .int .i64 w), (1, .int .i64 a), (2, .int .i64 b), (3, .int .i64 c), (8, .ptr 0 0), (10, .ptr 2 0), (11, .int .i64 k), (12, .int .i64 x), (13, .int .i64 w), (69, .bool false)] σ' ∧ Row σ' 1 (nints (xin w a b c k w)) ∧ σ'.n = σ.n ∧ ∀ d, d ≠ 1 → σ'.get d = σ.get d := by
  intro m
  induction m with
  | zero =>
    intro i σ hi h2 hr
    obtain rfl : i = w := by omega
    refine ⟨σ, ?_, hr, rfl, fun _ _ => rfl⟩
    rw [fi80]
    rw [xl80_1]
    simp only [B80_1, b80, Tryd.f80, Option.getD, fstC, sndC, bodyC, thnC, elsC]
    simp [xI_seq, xI_region, xI_ret, regA, regOps, runOps, opStep, wantedA, opA, evo, evos, calleeA, lk, nif_eq, putE, paramsE, valS, val2, keepE, restrict, finA, resA, binA, binInt, ofConst, ofConst1, loadA, TK.isAgg, asVar, unA, builtinA, lenOpA, lenA, ileb_cast, ileb_eq, ieqb_dec, indexAddrA, inB_dec, evPairs, storeA, AV.cellsOf, pairsOf, xI_nil, binBool, gcE, evOpt, tagZ, xI_block, xI_loopH, xI_condM, xI_exitM, xI_skip, xI_blk, exitA, ty2, ty4, ty24, ty36, ty51, eK80_0_0, eK80_1_2, eK80_1_1, eK80_1_0]
  | succ m ih =>
    intro i σ hi h2 hr
    have hiw : i < w := by omega
    have hw16 : 2 ^ w ≤ 65536 := pw_16 hw
    have hrd := hr.read (nints_get (xin_get hiw))
    have hc : cellsAt σ (.ptr 2 1) 1 = some [.sl 1 0 w w] := by simp [cellsAt, h2, getCells, takeN, dropN]
    have hb0 : bitRow w a b c i k < 65536 := bit_16 (by omega)
    have u1 := n_wrapu (a := i) (by omega)
    have u2 := n_wrapu (a := k) (by omega)
    have s1 := sh_r (a := x) (b := i) (by omega)
    have hsl : shrN x i ≤ x := Nat.div_le_self _ _
    have s2 := n_and1 (a := shrN x i) (by omega)
    have hm := mod_le (shrN x i)
    have hpk : 2 ^ k ≤ 65536 := pw_16 (by omega)
    have hml : modN (shrN x i) 2 * 2 ^ k ≤ 1 * 65536 := Nat.mul_le_mul hm hpk
    have s3 := sh_l (a := modN (shrN x i) 2) (b := k) (by omega) (by omega)
    have s4 := n_or (a := bitRow w a b c i k) (b := shlN (modN (shrN x i) 2) k) (by omega) (by show modN (shrN x i) 2 * 2 ^ k ≤ _; omega)
    rw [show orN (bitRow w a b c i k) (shlN (modN (shrN x i) 2) k) = bitRow w a b c i (k + 1) by rw [hx]; rfl] at s4
    obtain ⟨σ1, hst, hr1, hn1, hu1⟩ := store_row (i := i) (x := (bitRow w a b c i (k + 1) : Nat)) hr (by rw [nints_length]; simp [xin]; omega)
    rw [nints_set, xin_set hiw] at hr1
    obtain ⟨σ', e1, e2, e3, e4⟩ := ih (i + 1) σ1 (by omega) ((hu1 2 (by decide)).trans h2) hr1
    refine ⟨σ', ?_, e2, e3.trans hn1, fun d hd => (e4 d hd).trans (hu1 d hd)⟩
    have hlt : ¬ w ≤ i := by omega
    have hwr := wrapS (n := i) (by omega)
    simp only [Int.natCast_add, show ((1 : Nat) : Int) = 1 from rfl] at e1
    generalize bitRow w a b c i (k + 1) = z at *
    generalize bitRow w a b c i k = z0 at *
    rw [fi80] at e1 ⊢
    rw [xl80_1]
    simp only [B80_1, b80, Tryd.f80, Option.getD, fstC, sndC, bodyC, thnC, elsC]
    simp [xI_seq, xI_region, xI_ret, regA, regOps, runOps, opStep, wantedA, opA, evo, evos, calleeA, lk, nif_eq, putE, paramsE, valS, val2, keepE, restrict, finA, resA, binA, binInt, ofConst, ofConst1, loadA, TK.isAgg, asVar, unA, builtinA, lenOpA, lenA, ileb_cast, ileb_eq, ieqb_dec, indexAddrA, inB_dec, evPairs, storeA, AV.cellsOf, pairsOf, xI_nil, binBool, gcE, evOpt, tagZ, xI_block, xI_loopH, xI_condM, xI_exitM, xI_skip, xI_blk, exitA, ty2, ty4, ty24, ty36, ty51, eK80_0_0, eK80_1_2, eK80_1_1, eK80_1_0, fieldAddrA, allOne, AV.one, ty2, ty24, ty51, hlt, hiw, hwr, hc, hrd, u1, u2, s1, s2, s3, s4, hst, convA, ty36]
    exact e1
theorem shifts_eq {w a b c n : Nat} (hn : n < 2 ^ w) : xorN (xorN (xorN n (upN n a w)) (dnN (xorN n (upN n a w)) b w)) (upN (xorN (xorN n (upN n a w)) (dnN (xorN n (upN n a w)) b w)) c w) = shifts w a b c n := by
  have h1 : xorN n (upN n a w) < 2 ^ w := xor_up_lt a hn
  rw [dn_eq h1]; rfl
theorem l80 (w a b c : Nat) (hw : w ≤ 16) (ha : a ≤ w) (hb : b ≤ w) (hc : c ≤ w) : ∀ (m k : Nat) (σ : St), k + m = w → σ.get 0 = some ⟨[.int .i64 0, .nilS, .int .i64 0], 3, false⟩ → σ.get 2 = some ⟨[.int .i64 w, .sl 1 0 w w, .int .i64 1], 3, false⟩ → Row σ 1 (nints ((List.range w).map fun j => bitRow w a b c j k)) →
    ∃ σ', exI TT (FI.of Tryd.f80 (TT.an 80)) K80_0 [(0, .int .i64 w), (1, .int .i64 a), (2, .int .i64 b), (3, .int .i64 c), (8, .ptr 0 0), (10, .ptr 2 0), (11, .int .i64 k)] σ = some (.tup [.agg [.int .i64 w, .sl 1 0 w w, .int .i64 1], .bool true], σ') ∧ Row σ' 1 (nints (xsL w a b c)) := by
  intro m
  induction m with
  | zero =>
    intro k σ hk g0 g2 hr
    obtain rfl : k = w := by omega
    obtain ⟨σ', m1, m2, m3⟩ := res0 (x := .int .i64 k) (y := .sl 1 0 k k) (z := .int .i64 1) g0 rfl
    have hall : cellsAt σ (.ptr 2 0) 3 = some [.int .i64 k, .sl 1 0 k k, .int .i64 1] := by simp [cellsAt, g2, getCells, takeN, dropN]
    refine ⟨σ', ?_, m3 1 _ (by decide) hr⟩
    rw [fi80]
    rw [xl80_0]
    simp only [B80_0, b80, Tryd.f80, Option.getD, fstC, sndC, bodyC, thnC, elsC]
    simp [xI_seq, xI_region, xI_ret, regA, regOps, runOps, opStep, wantedA, opA, evo, evos, calleeA, lk, nif_eq, putE, paramsE, valS, val2, keepE, restrict, finA, resA, binA, binInt, ofConst, ofConst1, loadA, TK.isAgg, asVar, unA, builtinA, lenOpA, lenA, ileb_cast, ileb_eq, ieqb_dec, indexAddrA, inB_dec, evPairs, storeA, AV.cellsOf, pairsOf, xI_nil, binBool, gcE, evOpt, tagZ, xI_block, xI_loopH, xI_condM, xI_exitM, xI_skip, xI_blk, exitA, ty2, ty4, ty24, ty36, ty51, eK80_0_0, eK80_1_2, eK80_1_1, eK80_1_0]
    simp only [R80_0_0, b80, Tryd.f80, Option.getD, fstC, sndC, bodyC, thnC, elsC]
    simp [xI_seq, xI_region, xI_ret, regA, regOps, runOps, opStep, wantedA, opA, evo, evos, calleeA, lk, nif_eq, putE, paramsE, valS, val2, keepE, restrict, finA, resA, binA, binInt, ofConst, ofConst1, loadA, TK.isAgg, asVar, unA, builtinA, lenOpA, lenA, ileb_cast, ileb_eq, ieqb_dec, indexAddrA, inB_dec, evPairs, storeA, AV.cellsOf, pairsOf, xI_nil, binBool, gcE, evOpt, tagZ, xI_block, xI_loopH, xI_condM, xI_exitM, xI_skip, xI_blk, exitA, ty2, ty4, ty24, ty36, ty51, eK80_0_0, eK80_1_2, eK80_1_1, eK80_1_0, ty51, hall, m1, m2]
  | succ m ih =>
    intro k σ hk g0 g2 hr
    have hkw : k < w := by omega
    have hw16 : 2 ^ w ≤ 65536 := pw_16 hw
    have hp0 : pw k < 2 ^ w := Nat.pow_lt_pow_right (by decide) hkw
    obtain ⟨y1, hy1⟩ : ∃ y, y = upN (pw k) a w := ⟨_, rfl⟩
    have c1 : ∀ σ, callI TT 128 [.int .i64 (pw k : Nat), .int .i64 a, .int .i64 w] σ = some (.int .i64 y1, σ) := fun σ => by rw [hy1]; exact v128u (pw k) a w (by omega) (by omega) hw σ _ rfl
    have ly1 : y1 < 2 ^ w := by rw [hy1]; exact Nat.mod_lt _ (pw_pos w)
    obtain ⟨x1, hx1⟩ : ∃ x, x = xorN (pw k) y1 := ⟨_, rfl⟩
    have lx1 : x1 < 2 ^ w := by rw [hx1]; exact Nat.xor_lt_two_pow hp0 ly1
    have d1 := n_xor (a := pw k) (b := y1) (by omega) (by omega)
    rw [← hx1] at d1
    obtain ⟨y2, hy2⟩ : ∃ y, y = dnN x1 b w := ⟨_, rfl⟩
    have c2 : ∀ σ, callI TT 128 [.int .i64 x1, .int .i64 (-(b : Int)), .int .i64 w] σ = some (.int .i64 y2, σ) := fun σ => by rw [hy2]; exact v128n x1 b w (by omega) (by omega) hw σ _ rfl
    have ly2 : y2 < 2 ^ w := by rw [hy2, dn_eq lx1]; exact Nat.lt_of_le_of_lt (Nat.div_le_self _ _) lx1
    obtain ⟨x2, hx2⟩ : ∃ x, x = xorN x1 y2 := ⟨_, rfl⟩
    have lx2 : x2 < 2 ^ w := by rw [hx2]; exact Nat.xor_lt_two_pow lx1 ly2
    have d2 := n_xor (a := x1) (b := y2) (by omega) (by omega)
    rw [← hx2] at d2
    obtain ⟨y3, hy3⟩ : ∃ y, y = upN x2 c w := ⟨_, rfl⟩
    have c3 : ∀ σ, callI TT 128 [.int .i64 x2, .int .i64 c, .int .i64 w] σ = some (.int .i64 y3, σ) := fun σ => by rw [hy3]; exact v128u x2 c w (by omega) (by omega) hw σ _ rfl
    have ly3 : y3 < 2 ^ w := by rw [hy3]; exact Nat.mod_lt _ (pw_pos w)
    obtain ⟨x3, hx3⟩ : ∃ x, x = xorN x2 y3 := ⟨_, rfl⟩
    have lx3 : x3 < 2 ^ w := by rw [hx3]; exact Nat.xor_lt_two_pow lx2 ly3
    have d3 := n_xor (a := x2) (b := y3) (by omega) (by omega)
    rw [← hx3] at d3
    have hfin : x3 = shifts w a b c (2 ^ k) := by rw [hx3, hy3, hx2, hy2, hx1, hy1]; exact shifts_eq hp0
    rw [← xin_zero] at hr
    obtain ⟨σ1, e1, e2, e3, e4⟩ := l80b w a b c k hw hkw x3 hfin lx3 (fun _ => True) w 0 σ (by omega) g2 hr
    rw [xin_full] at e2
    obtain ⟨σ', e5, e6⟩ := ih (k + 1) σ1 (by omega) ((e4 0 (by decide)).trans g0) ((e4 2 (by decide)).trans g2) e2
    refine ⟨σ', ?_, e6⟩
    have hlt : ¬ w ≤ k := by omega
    have hwr := wrapS (n := k) (by omega)
    have u1 := n_wrapu (a := k) (by omega)
    have s1 := sh_1 (b := k) (by omega)
    have hneg : wrapA .i64 (-(b : Int)) = -(b : Int) := wrapA_id (by omega) (by omega)
    simp only [Int.natCast_add, Int.natCast_zero, show ((1 : Nat) : Int) = 1 from rfl, show ((0 : Nat) : Int) = 0 from rfl] at e1 e5
    rw [fi80] at e1 e5 ⊢
    rw [xl80_0]
    simp only [B80_0, b80, Tryd.f80, Option.getD, fstC, sndC, bodyC, thnC, elsC]
    simp [xI_seq, xI_region, xI_ret, regA, regOps, runOps, opStep, wantedA, opA, evo, evos, calleeA, lk, nif_eq, putE, paramsE, valS, val2, keepE, restrict, finA, resA, binA, binInt, ofConst, ofConst1, loadA, TK.isAgg, asVar, unA, builtinA, lenOpA, lenA, ileb_cast, ileb_eq, ieqb_dec, indexAddrA, inB_dec, evPairs, storeA, AV.cellsOf, pairsOf, xI_nil, binBool, gcE, evOpt, tagZ, xI_block, xI_loopH, xI_condM, xI_exitM, xI_skip, xI_blk, exitA, ty2, ty4, ty24, ty36, ty51, eK80_0_0, eK80_1_2, eK80_1_1, eK80_1_0, hlt, hkw, u1, s1, c1, d1, hneg, c2, d2, c3, d3, convA, ty2, ty36]
    refine e1.trans ?_
    simp only [R80_1_2, b80, Tryd.f80, Option.getD, fstC, sndC, bodyC, thnC, elsC]
    simp [xI_seq, xI_region, xI_ret, regA, regOps, runOps, opStep, wantedA, opA, evo, evos, calleeA, lk, nif_eq, putE, paramsE, valS, val2, keepE, restrict, finA, resA, binA, binInt, ofConst, ofConst1, loadA, TK.isAgg, asVar, unA, builtinA, lenOpA, lenA, ileb_cast, ileb_eq, ieqb_dec, indexAddrA, inB_dec, evPairs, storeA, AV.cellsOf, pairsOf, xI_nil, binBool, gcE, evOpt, tagZ, xI_block, xI_loopH, xI_condM, xI_exitM, xI_skip, xI_blk, exitA, ty2, ty4, ty24, ty36, ty51, eK80_0_0, eK80_1_2, eK80_1_1, eK80_1_0, hwr]
    exact e5
theorem o80 (w a b c : Int) : FnM TT 80 [.int .i64 w, .int .i64 a, .int .i64 b, .int .i64 c] (xsR w a b c) := by
  obtain ⟨σ, hσ⟩ : ∃ σ, (⟨[], 0⟩ : St).push ⟨[.int .i64 0, .nilS, .int .i64 0], 3, false⟩ = σ := ⟨_, rfl⟩
  have g0 : σ.get 0 = some ⟨[.int .i64 0, .nilS, .int .i64 0], 3, false⟩ := by subst hσ; rfl
  have hn : σ.n = 1 := by subst hσ; rfl
  have i1 := c110 w 1 16 σ
  have i2 := c110 a 0 w σ
  have i3 := c110 b 0 w σ
  have i4 := c110 c 0 w σ
  cases hv : xsOk w a b c with
  | false =>
    rw [xsR_no hv]
    obtain ⟨σn, m1, m2, _⟩ := res0 (x := .int .i64 0) (y := .nilS) (z := .int .i64 0) g0 rfl
    refine FnM.mkN fn80 rfl md80 ⟨σn, ?_⟩
    cases h1 : inR w 1 16 with
    | false =>
      rw [h1] at i1
      rw [fi80]
      simp [xI_seq, xI_region, xI_ret, regA, regOps, runOps, opStep, wantedA, opA, evo, evos, calleeA, lk, nif_eq, putE, paramsE, valS, val2, keepE, restrict, finA, resA, binA, binInt, ofConst, ofConst1, loadA, TK.isAgg, asVar, unA, builtinA, lenOpA, lenA, ileb_cast, ileb_eq, ieqb_dec, indexAddrA, inB_dec, evPairs, storeA, AV.cellsOf, pairsOf, xI_nil, binBool, gcE, evOpt, tagZ, xI_block, xI_loopH, xI_condM, xI_exitM, xI_skip, xI_blk, exitA, ty2, ty4, ty24, ty36, ty51, eK80_0_0, eK80_1_2, eK80_1_1, eK80_1_0, buildA, sizesOf, fillA, allOne, AV.one, ty2, ty24, ty51, hσ, i1, m1, m2]
    | true =>
      rw [h1] at i1
      cases h2 : inR a 0 w with
      | false =>
        rw [h2] at i2
        rw [fi80]
        simp [xI_seq, xI_region, xI_ret, regA, regOps, runOps, opStep, wantedA, opA, evo, evos, calleeA, lk, nif_eq, putE, paramsE, valS, val2, keepE, restrict, finA, resA, binA, binInt, ofConst, ofConst1, loadA, TK.isAgg, asVar, unA, builtinA, lenOpA, lenA, ileb_cast, ileb_eq, ieqb_dec, indexAddrA, inB_dec, evPairs, storeA, AV.cellsOf, pairsOf, xI_nil, binBool, gcE, evOpt, tagZ, xI_block, xI_loopH, xI_condM, xI_exitM, xI_skip, xI_blk, exitA, ty2, ty4, ty24, ty36, ty51, eK80_0_0, eK80_1_2, eK80_1_1, eK80_1_0, buildA, sizesOf, fillA, allOne, AV.one, ty2, ty24, ty51, hσ, i1, i2, m1, m2]
      | true =>
        rw [h2] at i2
        cases h3 : inR b 0 w with
        | false =>
          rw [h3] at i3
          rw [fi80]
          simp [xI_seq, xI_region, xI_ret, regA, regOps, runOps, opStep, wantedA, opA, evo, evos, calleeA, lk, nif_eq, putE, paramsE, valS, val2, keepE, restrict, finA, resA, binA, binInt, ofConst, ofConst1, loadA, TK.isAgg, asVar, unA, builtinA, lenOpA, lenA, ileb_cast, ileb_eq, ieqb_dec, indexAddrA, inB_dec, evPairs, storeA, AV.cellsOf, pairsOf, xI_nil, binBool, gcE, evOpt, tagZ, xI_block, xI_loopH, xI_condM, xI_exitM, xI_skip, xI_blk, exitA, ty2, ty4, ty24, ty36, ty51, eK80_0_0, eK80_1_2, eK80_1_1, eK80_1_0, buildA, sizesOf, fillA, allOne, AV.one, ty2, ty24, ty51, hσ, i1, i2, i3, m1, m2]
        | true =>
          rw [h3] at i3
          have h4 : inR c 0 w = false := by simpa [xsOk, h1, h2, h3] using hv
          rw [h4] at i4
          rw [fi80]
          simp [xI_seq, xI_region, xI_ret, regA, regOps, runOps, opStep, wantedA, opA, evo, evos, calleeA, lk, nif_eq, putE, paramsE, valS, val2, keepE, restrict, finA, resA, binA, binInt, ofConst, ofConst1, loadA, TK.isAgg, asVar, unA, builtinA, lenOpA, lenA, ileb_cast, ileb_eq, ieqb_dec, indexAddrA, inB_dec, evPairs, storeA, AV.cellsOf, pairsOf, xI_nil, binBool, gcE, evOpt, tagZ, xI_block, xI_loopH, xI_condM, xI_exitM, xI_skip, xI_blk, exitA, ty2, ty4, ty24, ty36, ty51, eK80_0_0, eK80_1_2, eK80_1_1, eK80_1_0, buildA, sizesOf, fillA, allOne, AV.one, ty2, ty24, ty51, hσ, i1, i2, i3, i4, m1, m2]
  | true =>
    have hv0 := hv
    simp only [xsOk, Bool.and_eq_true] at hv0
    rw [hv0.1] at i1
    rw [hv0.2.1.1] at i2
    rw [hv0.2.1.2] at i3
    rw [hv0.2.2] at i4
    obtain ⟨w, a, b, c, rfl, rfl, rfl, rfl, hw1, hw, ha, hb, hc⟩ := xs_nat hv
    rw [xsR_yes hv]
    obtain ⟨σ1, hσ1⟩ : ∃ σ1, σ.push ⟨ints (List.replicate w 0), 1, false⟩ = σ1 := ⟨_, rfl⟩
    have n1 : σ1.n = 2 := by subst hσ1; rw [n_push, hn]
    have hm := mkI σ w (by omega)
    rw [hσ1, hn] at hm
    have r1 : Row σ1 1 (nints ((List.range w).map fun j => bitRow w a b c j 0)) := by
      rw [show nints ((List.range w).map fun j => bitRow w a b c j 0) = List.replicate w 0 by
        refine List.ext_getElem? fun j => ?_
        by_cases hj : j < w
        · simp [nints, List.getElem?_replicate, hj, bitRow]
        · simp [nints, List.getElem?_replicate, hj]]
      subst hσ1
      have := Row.push (σ := σ) (l := List.replicate w 0) (o := false)
      rwa [hn] at this
    obtain ⟨σ2, s2, n2, q2, o2⟩ := boxed σ1 (.int .i64 0) .nilS (.int .i64 0) (.int .i64 w) (.sl 1 0 w w) (.int .i64 1) rfl
    rw [n1] at s2 q2
    have g2 : σ2.get 2 = some ⟨[.int .i64 w, .sl 1 0 w w, .int .i64 1], 3, false⟩ := by
      have s2' := s2
      simp only [storeCellsA, n1 ▸ get_push_same (σ := σ1), allOne, AV.one, putN, overN, Bool.and_self] at s2'
      cases s2'
      rw [get_set_eq (n1 ▸ get_push_same (σ := σ1))]
    have g02 : σ2.get 0 = some ⟨[.int .i64 0, .nilS, .int .i64 0], 3, false⟩ := by rw [o2.2 0 (by omega)]; subst hσ1; rw [get_push_lt (by omega)]; exact g0
    obtain ⟨σ', e1, e2⟩ := l80 w a b c hw ha hb hc w 0 σ2 (by omega) g02 g2 (r1.old o2)
    obtain ⟨o, e2, _⟩ := e2
    have hxl : (nints (xsL w a b c)).length = w := by rw [nints_length]; simp [xsL]
    refine FnM.mkS fn80 rfl md80 ⟨σ', 1, o, ?_, e2⟩
    simp only [Int.natCast_zero, show ((0 : Nat) : Int) = 0 from rfl] at e1
    rw [hxl, ← e1, fi80]
    simp [xI_seq, xI_region, xI_ret, regA, regOps, runOps, opStep, wantedA, opA, evo, evos, calleeA, lk, nif_eq, putE, paramsE, valS, val2, keepE, restrict, finA, resA, binA, binInt, ofConst, ofConst1, loadA, TK.isAgg, asVar, unA, builtinA, lenOpA, lenA, ileb_cast, ileb_eq, ieqb_dec, indexAddrA, inB_dec, evPairs, storeA, AV.cellsOf, pairsOf, xI_nil, binBool, gcE, evOpt, tagZ, xI_block, xI_loopH, xI_condM, xI_exitM, xI_skip, xI_blk, exitA, ty2, ty4, ty24, ty36, ty51, eK80_0_0, eK80_1_2, eK80_1_1, eK80_1_0, buildA, sizesOf, fillA, putCells, allOne, AV.one, ty2, ty24, ty51, hσ, i1, i2, i3, i4, hn, hm, n1, s2]
    rfl

open Go.Wd
noncomputable def b81 : Code := Tryd.f81.body.getD .skip
noncomputable def B81_0 : Code := (bodyC (bodyC (sndC (fstC (sndC (sndC (sndC b81)))))))
noncomputable def K81_0 : List It := .lp B81_0 :: .blk 0 :: .code (sndC (sndC (sndC (sndC b81)))) :: []
theorem xl81_0 {fi : FI} {env : Env} {σ : St} : exI TT fi K81_0 env σ = exI TT fi (.code B81_0 :: K81_0) env σ := by unfold K81_0; exact xI_lp
noncomputable def R81_0_0 : List It := .code (sndC (sndC (sndC (sndC b81)))) :: []
theorem eK81_0_0 : exitA 0 K81_0 = some R81_0_0 := rfl
/-- A machine in the heap. -/
def LINB (σ : St) (D : Nat) (a x c : AV) : Prop := σ.get D = some ⟨[a, x, c], 3, false⟩
theorem LINB.keep {σ σ' : St} {D : Nat} {a x c : AV} (h : LINB σ D a x c) (e : σ'.get D = σ.get D) : LINB σ' D a x c := by unfold LINB; rw [e]; exact h
theorem LINB.c1 {σ : St} {D : Nat} {a x c : AV} (h : LINB σ D a x c) : cellsAt σ (.ptr D 1) 1 = some [x] := by simp [cellsAt, (show σ.get D = _ from h), getCells, takeN, dropN]
theorem LINB.c3 {σ : St} {D : Nat} {a x c : AV} (h : LINB σ D a x c) : cellsAt σ (.ptr D 0) 3 = some [a, x, c] := by simp [cellsAt, (show σ.get D = _ from h), getCells, takeN, dropN]
theorem LINB.s1 {σ : St} {D : Nat} {a x c y : AV} (h : LINB σ D a x c) (hy : y.one = true) : ∃ σ', storeCellsA σ D 1 [y] = some σ' ∧ LINB σ' D a y c ∧ σ'.n = σ.n ∧ ∀ d, d ≠ D → σ'.get d = σ.get d :=
  ⟨σ.set D ⟨[a, y, c], 3, false⟩, by simp [storeCellsA, (show σ.get D = _ from h), allOne, hy, putN, overN], get_set_eq h, rfl, fun d hd => get_set_ne (fun e => hd e.symm)⟩
theorem LINB.s2 {σ : St} {D : Nat} {a x c : AV} (h : LINB σ D a x c) (y : Int) : ∃ σ', storeCellsA σ D 2 [.int .i64 y] = some σ' ∧ LINB σ' D a x (.int .i64 y) ∧ σ'.n = σ.n ∧ ∀ d, d ≠ D → σ'.get d = σ.get d :=
  ⟨σ.set D ⟨[a, x, .int .i64 y], 3, false⟩, by simp [storeCellsA, (show σ.get D = _ from h), allOne, AV.one, putN, overN], get_set_eq h, rfl, fun d hd => get_set_ne (fun e => hd e.symm)⟩
theorem LINB.s3 {σ : St} {D : Nat} {a x c a' x' c' : AV} (h : LINB σ D a x c) (h1 : a'.one = true) (h2 : x'.one = true) (h3 : c'.one = true) : ∃ σ', storeCellsA σ D 0 [a', x', c'] = some σ' ∧ LINB σ' D a' x' c' ∧ σ'.n = σ.n ∧ ∀ d, d ≠ D → σ'.get d = σ.get d :=
  ⟨σ.set D ⟨[a', x', c'], 3, false⟩, by simp [storeCellsA, (show σ.get D = _ from h), allOne, h1, h2, h3, putN, overN], get_set_eq h, rfl, fun d hd => get_set_ne (fun e => hd e.symm)⟩
/-- A row of a drawn machine. -/
theorem draw_row {w i r kind : Nat} (hw : w ≤ 16) (hi : i < w) (hr : r < pw w) : (if kind = 0 then (if i + 1 < w then pw (i + 1) else r) else if kind = 1 then orN (andN r (subN (pw i) 1)) (pw i) else r) < pw w := by
  have h1 : pw i < pw w := Nat.pow_lt_pow_right (by decide) hi
  split
  · split
    · exact Nat.pow_lt_pow_right (by decide) (by omega)
    · exact hr
  · split
    · exact Nat.or_lt_two_pow (Nat.lt_of_le_of_lt Nat.and_le_right (Nat.lt_of_le_of_lt (Nat.sub_le _ _) h1)) h1
    · exact hr
theorem pw_le16 {i : Nat} (h : i ≤ 16) : pw i ≤ 65536 := Nat.pow_le_pow_right (by decide) h
theorem pw_ge1 (i : Nat) : 1 ≤ pw i := Nat.two_pow_pos i
theorem cv73 (σ : St) {i : Nat} (h : i ≤ 16) : convA TT σ 2 36 (.int .i64 i) = some (.int .u64 i, σ) := by
  simp [convA, ty2, ty36, n_wrapu (a := i) (by omega)]
theorem sl_one (b n : Nat) : (AV.sl b 0 n n).one = true := rfl
theorem in_one (x : Int) : (AV.int .i64 x).one = true := rfl

theorem l81 (l : List Nat) (hl : ∀ x ∈ l, x < 256) (hll : l.length ≤ 1000) (w kind s P D : Nat) (hw : w ≤ 16) (hsD : D ≠ s) (hPD : P < D) : ∀ (m i : Nat) (R : List Nat) (b k mm : Nat) (σ : St), i + m = w → R.length = i → (∀ r ∈ R, r < pw w) → k ≤ 2 * i + 900000 → SRC σ s l k mm → LINB σ D (.int .i64 w) (.sl b 0 i i) (.int .i64 0) → D < σ.n → P < σ.n → Row σ b (nints R) → b ≠ s → b ≠ D → P < b →
    ∃ σ' b' R' k' m', exI TT (FI.of Tryd.f81 (TT.an 81)) K81_0 [(0, .ptr s 0), (1, .int .i64 w), (4, .ptr P 0), (5, .ptr D 0), (6, .int .i64 kind), (7, .int .i64 i)] σ = exI TT (FI.of Tryd.f81 (TT.an 81)) R81_0_0 [(0, .ptr s 0), (1, .int .i64 w), (4, .ptr P 0), (5, .ptr D 0), (6, .int .i64 kind), (7, .int .i64 w), (16, .bool false)] σ' ∧ R'.length = w ∧ (∀ r ∈ R', r < pw w) ∧ k' ≤ 2 * w + 900000 ∧ SRC σ' s l k' m' ∧ LINB σ' D (.int .i64 w) (.sl b' 0 w w) (.int .i64 0) ∧ σ.n ≤ σ'.n ∧ Row σ' b' (nints R') ∧ b' ≠ s ∧ b' ≠ D ∧ P < b' ∧ ∀ c, c ≤ P → c ≠ s → σ'.get c = σ.get c := by
  intro m
  induction m with
  | zero =>
    intro i R b k mm σ hi hR hB hk hS hL hD hP hr b1 b2 b3
    obtain rfl : i = w := by omega
    refine ⟨σ, b, R, k, mm, ?_, hR, hB, hk, hS, hL, Nat.le_refl _, hr, b1, b2, b3, fun _ _ _ => rfl⟩
    rw [fi81]
    rw [xl81_0]
    simp only [B81_0, b81, Tryd.f81, Option.getD, fstC, sndC, bodyC, thnC, elsC]
    simp [xI_seq, xI_region, xI_ret, regA, regOps, runOps, opStep, wantedA, opA, evo, evos, calleeA, lk, nif_eq, putE, paramsE, valS, val2, keepE, restrict, finA, resA, binA, binInt, ofConst, ofConst1, loadA, TK.isAgg, asVar, unA, builtinA, lenOpA, lenA, ileb_cast, ileb_eq, ieqb_dec, indexAddrA, inB_dec, evPairs, storeA, AV.cellsOf, pairsOf, xI_nil, binBool, gcE, evOpt, tagZ, xI_block, xI_loopH, xI_condM, xI_exitM, xI_skip, xI_blk, exitA, ty2, ty24, ty36, ty51, eK81_0_0]
  | succ m ih =>
    intro i R b k mm σ hi hR hB hk hS hL hD hP hr b1 b2 b3
    have hlt : ¬ w ≤ i := by omega
    have hlt' : ¬ (w : Int) ≤ (i : Int) := by omega
    have hlt2 : i < w := by omega
    have hw1 := wrapS (n := i) (by omega)
    have z1 := cv73 σ (i := w) hw
    have z2 : wrapA .i64 (shlA 1 (min w IntKind.i64.bits)) = ((pw w : Nat) : Int) := sh_1 (by omega)
    obtain ⟨r, k1, m1, σ1, c1, hr1, S1, hk1, n1, u1⟩ := c66 l hl hll k mm (by omega) (pw w) (by have := pw_le16 hw; omega) σ s hS
    have hr1 : r < pw w := by have := pw_ge1 w; omega
    have hL1 : LINB σ1 D (.int .i64 w) (.sl b 0 i i) (.int .i64 0) := hL.keep (u1 D hsD)
    have hR1 : Row σ1 b (nints R) := hr.keep (by omega) (u1 b b1)
    have hb := hR1.lt
    obtain ⟨x, hx⟩ : ∃ x, (if kind = 0 then (if i + 1 < w then pw (i + 1) else r) else if kind = 1 then orN (andN r (subN (pw i) 1)) (pw i) else r) = x := ⟨_, rfl⟩
    have hxl : x < pw w := by rw [← hx]; exact draw_row hw hlt2 hr1
    obtain ⟨σ2, hap, hr2, hn2, u2⟩ := nints_append_row (x := x) ty24 ty2 hR1 (n := i) hR.symm (by omega)
    have hL2 : LINB σ2 D (.int .i64 w) (.sl b 0 i i) (.int .i64 0) := hL1.keep (u2 D (fun e => b2 e.symm) (by omega))
    obtain ⟨σ3, c3, hL3, n3, u3⟩ := hL2.s1 (sl_one (σ1.n + 1) (i + 1))
    have e1 := hL1.c1
    obtain ⟨σ', b', R', k', m', h2, h3, h4, h5, h6, h7, h8, h9, h10, h11, h12, h13⟩ := ih (i + 1) (R ++ [x]) (σ1.n + 1) k1 m1 σ3 (by omega) (by simp [hR]) (fun t ht => by rcases List.mem_append.1 ht with h | h; exact hB t h; simp at h; rw [h]; exact hxl) (by omega)
      (S1.keep (by omega) ((u3 s (fun e => hsD e.symm)).trans (u2 s (fun e => b1 e.symm) (by have := hS.1; omega)))) hL3 (by omega) (by omega) (hr2.keep (by omega) (u3 _ (by omega))) (by have := hS.1; omega) (by omega) (by omega)
    refine ⟨σ', b', R', k', m', ?_, h3, h4, h5, h6, h7, by omega, h9, h10, h11, h12, fun c hc hcs => (h13 c hc hcs).trans ((u3 c (by omega)).trans ((u2 c (by omega) (by omega)).trans (u1 c hcs)))⟩
    rw [← h2]
    have k2 : wrapA .i64 (shlA 1 (min (i + 1) IntKind.i64.bits)) = ((pw (i + 1) : Nat) : Int) := sh_1 (by omega)
    have k4 : wrapA .i64 (shlA 1 (min i IntKind.i64.bits)) = ((pw i : Nat) : Int) := sh_1 (by omega)
    have y1 := cv73 σ1 (i := i + 1) (by omega)
    have y2 := cv73 σ1 (i := i) (by omega)
    have p1 := pw_ge1 i
    have p2 := pw_le16 (i := i) (by omega)
    have p3 := pw_le16 hw
    have k5 : wrapA .i64 (((pw i : Nat) : Int) - 1) = ((subN (pw i) 1 : Nat) : Int) := by rw [show ((pw i : Nat) : Int) - 1 = ((subN (pw i) 1 : Nat) : Int) from by show _ = ((pw i - 1 : Nat) : Int); omega]; exact n_wrap (by show pw i - 1 ≤ _; omega)
    have k6 : bitsA .and .i64 (r : Int) ((subN (pw i) 1 : Nat) : Int) = some (.int .i64 ((andN r (subN (pw i) 1) : Nat) : Int)) := n_and (by omega) (by show pw i - 1 ≤ _; omega)
    have k7 : bitsA .or .i64 ((andN r (subN (pw i) 1) : Nat) : Int) ((pw i : Nat) : Int) = some (.int .i64 ((orN (andN r (subN (pw i) 1)) (pw i) : Nat) : Int)) := n_or (by have : andN r (subN (pw i) 1) ≤ r := Nat.and_le_left; omega) (by omega)
    simp only [Int.natCast_add, show ((1 : Nat) : Int) = 1 from rfl] at y1
    by_cases hk0 : kind = 0
    · subst hk0
      simp only [show ((0 : Nat) : Int) = 0 from rfl]
      by_cases hi1 : i + 1 < w
      · rw [if_pos rfl, if_pos hi1] at hx
        subst hx
        have q1 : (i : Int) + 1 < (w : Int) := by omega
        have q0 : (0 : Int) ≤ (i : Int) + 1 := by omega
        have q2 : ¬ (w : Int) ≤ (i : Int) + 1 := by omega
        have q3 : ¬ w ≤ i + 1 := by omega
        rw [fi81]
        rw [xl81_0]
        simp only [B81_0, b81, Tryd.f81, Option.getD, fstC, sndC, bodyC, thnC, elsC]
        simp [xI_seq, xI_region, xI_ret, regA, regOps, runOps, opStep, wantedA, opA, evo, evos, calleeA, lk, nif_eq, putE, paramsE, valS, val2, keepE, restrict, finA, resA, binA, binInt, ofConst, ofConst1, loadA, TK.isAgg, asVar, unA, builtinA, lenOpA, lenA, ileb_cast, ileb_eq, ieqb_dec, indexAddrA, inB_dec, evPairs, storeA, AV.cellsOf, pairsOf, xI_nil, binBool, gcE, evOpt, tagZ, xI_block, xI_loopH, xI_condM, xI_exitM, xI_skip, xI_blk, exitA, ty2, ty24, ty36, ty51, eK81_0_0, fieldAddrA, allOne, AV.one, n_push, ty2, ty3, ty5, ty32, ty24, ty51, ty36, ty96, ty141, ty143, hlt, hlt', hlt2, hw1, z1, z2, c1, q0, q1, q2, q3, hi1, y1, k2, e1, bs1, hap, c3]
      · rw [if_pos rfl, if_neg hi1] at hx
        subst hx
        have q1 : ¬ (i : Int) + 1 < (w : Int) := by omega
        have q2 : (w : Int) ≤ (i : Int) + 1 := by omega
        have q3 : w ≤ i + 1 := by omega
        rw [fi81]
        rw [xl81_0]
        simp only [B81_0, b81, Tryd.f81, Option.getD, fstC, sndC, bodyC, thnC, elsC]
        simp [xI_seq, xI_region, xI_ret, regA, regOps, runOps, opStep, wantedA, opA, evo, evos, calleeA, lk, nif_eq, putE, paramsE, valS, val2, keepE, restrict, finA, resA, binA, binInt, ofConst, ofConst1, loadA, TK.isAgg, asVar, unA, builtinA, lenOpA, lenA, ileb_cast, ileb_eq, ieqb_dec, indexAddrA, inB_dec, evPairs, storeA, AV.cellsOf, pairsOf, xI_nil, binBool, gcE, evOpt, tagZ, xI_block, xI_loopH, xI_condM, xI_exitM, xI_skip, xI_blk, exitA, ty2, ty24, ty36, ty51, eK81_0_0, fieldAddrA, allOne, AV.one, n_push, ty2, ty3, ty5, ty32, ty24, ty51, ty36, ty96, ty141, ty143, hlt, hlt', hlt2, hw1, z1, z2, c1, q1, q2, q3, hi1, e1, bs1, hap, c3]
    · have g0 : ¬ (kind : Int) = 0 := by omega
      by_cases hk1 : kind = 1
      · subst hk1
        rw [if_neg hk0, if_pos rfl] at hx
        subst hx
        simp only [show ((1 : Nat) : Int) = 1 from rfl]
        rw [fi81]
        rw [xl81_0]
        simp only [B81_0, b81, Tryd.f81, Option.getD, fstC, sndC, bodyC, thnC, elsC]
        simp [xI_seq, xI_region, xI_ret, regA, regOps, runOps, opStep, wantedA, opA, evo, evos, calleeA, lk, nif_eq, putE, paramsE, valS, val2, keepE, restrict, finA, resA, binA, binInt, ofConst, ofConst1, loadA, TK.isAgg, asVar, unA, builtinA, lenOpA, lenA, ileb_cast, ileb_eq, ieqb_dec, indexAddrA, inB_dec, evPairs, storeA, AV.cellsOf, pairsOf, xI_nil, binBool, gcE, evOpt, tagZ, xI_block, xI_loopH, xI_condM, xI_exitM, xI_skip, xI_blk, exitA, ty2, ty24, ty36, ty51, eK81_0_0, fieldAddrA, allOne, AV.one, n_push, ty2, ty3, ty5, ty32, ty24, ty51, ty36, ty96, ty141, ty143, hlt, hlt', hlt2, hw1, z1, z2, c1, y2, k4, k5, k6, k7, e1, bs1, hap, c3]
      · rw [if_neg hk0, if_neg hk1] at hx
        subst hx
        have g1 : ¬ (kind : Int) = 1 := by omega
        rw [fi81]
        rw [xl81_0]
        simp only [B81_0, b81, Tryd.f81, Option.getD, fstC, sndC, bodyC, thnC, elsC]
        simp [xI_seq, xI_region, xI_ret, regA, regOps, runOps, opStep, wantedA, opA, evo, evos, calleeA, lk, nif_eq, putE, paramsE, valS, val2, keepE, restrict, finA, resA, binA, binInt, ofConst, ofConst1, loadA, TK.isAgg, asVar, unA, builtinA, lenOpA, lenA, ileb_cast, ileb_eq, ieqb_dec, indexAddrA, inB_dec, evPairs, storeA, AV.cellsOf, pairsOf, xI_nil, binBool, gcE, evOpt, tagZ, xI_block, xI_loopH, xI_condM, xI_exitM, xI_skip, xI_blk, exitA, ty2, ty24, ty36, ty51, eK81_0_0, fieldAddrA, allOne, AV.one, n_push, ty2, ty3, ty5, ty32, ty24, ty51, ty36, ty96, ty141, ty143, hlt, hlt', hlt2, hw1, z1, z2, c1, hk0, hk1, g0, g1, e1, bs1, hap, c3]
theorem c81 (l : List Nat) (hl : ∀ x ∈ l, x < 256) (hll : l.length ≤ 1000) (w : Nat) (hw : w ≤ 16) (hw1 : 1 ≤ w) (k mm : Nat) (hk : k ≤ 1000) (σ : St) (s : Nat) (hS : SRC σ s l k mm) :
    ∃ (b o : Nat) (R : List Nat) (σ' : St), callI TT 81 [.ptr s 0, .int .i64 w] σ = some (.agg [.int .i64 w, .sl b 0 w w, .int .i64 o], σ') ∧ R.length = w ∧ (∀ r ∈ R, r < pw w) ∧ o < pw w ∧ Row σ' b (nints R) ∧ ∀ c, c < σ.n → c ≠ s → σ'.get c = σ.get c := by
  have hs := hS.1
  have p1 := pw_ge1 w
  have p3 := pw_le16 hw
  have p2 : 1 < pw w := Nat.lt_of_lt_of_le (show 1 < 2 by decide) (Nat.pow_le_pow_right (show 0 < 2 by decide) hw1)
  obtain ⟨σ1, e1⟩ : ∃ σ1, σ.push ⟨[.int .i64 0, .nilS, .int .i64 0], 3, false⟩ = σ1 := ⟨_, rfl⟩
  have n1 : σ1.n = σ.n + 1 := by subst e1; rfl
  have P1 : LINB σ1 σ.n (.int .i64 0) .nilS (.int .i64 0) := by subst e1; exact get_push_same
  have S1 : SRC σ1 s l k mm := hS.keep (by omega) (by subst e1; exact get_push_lt hs)
  obtain ⟨σ2, e2⟩ : ∃ σ2, σ1.push ⟨ints [], 1, false⟩ = σ2 := ⟨_, rfl⟩
  have n2 : σ2.n = σ.n + 1 + 1 := by subst e2; show σ1.n + 1 = _; omega
  have P2 : LINB σ2 σ.n (.int .i64 0) .nilS (.int .i64 0) := P1.keep (by subst e2; exact get_push_lt (by omega))
  have S2 : SRC σ2 s l k mm := S1.keep (by omega) (by subst e2; exact get_push_lt (by omega))
  have R2 : Row σ2 σ1.n (nints []) := by subst e2; exact Row.push
  rw [n1] at R2
  obtain ⟨σ3, e3⟩ : ∃ σ3, σ2.push ⟨[.int .i64 0, .nilS, .int .i64 0], 3, false⟩ = σ3 := ⟨_, rfl⟩
  have n3 : σ3.n = σ.n + 1 + 1 + 1 := by subst e3; show σ2.n + 1 = _; omega
  have D3 : LINB σ3 (σ.n + 1 + 1) (.int .i64 0) .nilS (.int .i64 0) := by subst e3; rw [← n2]; exact get_push_same
  have P3 : LINB σ3 σ.n (.int .i64 0) .nilS (.int .i64 0) := P2.keep (by subst e3; exact get_push_lt (by omega))
  have S3 : SRC σ3 s l k mm := S2.keep (by omega) (by subst e3; exact get_push_lt (by omega))
  have R3 : Row σ3 (σ.n + 1) (nints []) := R2.keep (by omega) (by subst e3; exact get_push_lt (by omega))
  obtain ⟨σ4, c4, D4, n4, u4⟩ := D3.s3 (in_one w) (sl_one (σ.n + 1) 0) (in_one 0)
  have P4 : LINB σ4 σ.n (.int .i64 0) .nilS (.int .i64 0) := P3.keep (u4 _ (by omega))
  have S4 : SRC σ4 s l k mm := S3.keep (by omega) (u4 _ (by omega))
  have R4 : Row σ4 (σ.n + 1) (nints []) := R3.keep (by omega) (u4 _ (by omega))
  obtain ⟨kind, k5, m5, σ5, c5, _, S5, hk5, n5, u5⟩ := c66 l hl hll k mm (by omega) 3 (by decide) σ4 s S4
  have D5 := D4.keep (u5 (σ.n + 1 + 1) (by omega))
  have P5 := P4.keep (u5 σ.n (by omega))
  have R5 : Row σ5 (σ.n + 1) (nints []) := R4.keep (by omega) (u5 _ (by omega))
  obtain ⟨σ6, b, R, k6, m6, c6, hR, hB, hk6, S6, D6, n6, R6, b1, b2, b3, u6⟩ := l81 l hl hll w kind s σ.n (σ.n + 1 + 1) hw (by omega) (by omega) w 0 [] (σ.n + 1) k5 m5 σ5 (by omega) rfl (by simp) (by omega) S5 D5 (by omega) (by omega) R5 (by omega) (by omega) (by omega)
  have P6 := P5.keep (u6 σ.n (Nat.le_refl _) (by omega))
  have o6 : ∀ c, c < σ.n → c ≠ s → σ6.get c = σ.get c := fun c hc hcs => (u6 c (by omega) hcs).trans ((u5 c hcs).trans ((u4 c (by omega)).trans (by subst e3; rw [get_push_lt (by omega)]; subst e2; rw [get_push_lt (by omega)]; subst e1; exact get_push_lt hc)))
  obtain ⟨o1, k7, m7, σ7, c7, ho, S7, hk7, n7, u7⟩ := c66 l hl hll k6 m6 (by omega) (pw w) (by omega) σ6 s S6
  have D7 := D6.keep (u7 _ (by omega))
  have P7 := P6.keep (u7 _ (by omega))
  have R7 : Row σ7 b (nints R) := R6.keep (by omega) (u7 _ b1)
  have ho : o1 < pw w := by omega
  obtain ⟨σ8, c8, D8, n8, u8⟩ := D7.s2 (o1 : Int)
  have P8 := P7.keep (u8 _ (by omega))
  have R8 : Row σ8 b (nints R) := R7.keep (by omega) (u8 _ b2)
  have S8 := S7.keep (by omega) (u8 s (by omega))
  obtain ⟨q, k9, m9, σ9, c9, S9, hk9, n9, u9⟩ := c67 l hl hll k7 m7 (by omega) 2 (by decide) σ8 s S8
  have D9 := D8.keep (u9 _ (by omega))
  have P9 := P8.keep (u9 _ (by omega))
  have R9 : Row σ9 b (nints R) := R8.keep (by omega) (u9 _ b1)
  have z1 := cv73 σ6 (i := w) hw
  have z2 : wrapA .i64 (shlA 1 (min w IntKind.i64.bits)) = ((pw w : Nat) : Int) := sh_1 (by omega)
  simp only [show ((3 : Nat) : Int) = 3 from rfl] at c5
  simp only [show ((2 : Nat) : Int) = 2 from rfl] at c9
  simp only [show ((0 : Nat) : Int) = 0 from rfl] at c6
  cases q with
  | true =>
    obtain ⟨σA, cA, DA, nA, uA⟩ := D9.s2 1
    have PA := P9.keep (uA _ (by omega))
    have RA : Row σA b (nints R) := R9.keep (by omega) (uA _ b2)
    have g1 := DA.c3
    obtain ⟨σB, cB, PB, nB, uB⟩ := PA.s3 (in_one w) (sl_one b w) (in_one 1)
    have g2 := PB.c3
    refine ⟨b, 1, R, σB, ?_, hR, hB, p2, RA.keep (by omega) (uB _ (by omega)), fun c hc hcs => (uB c (by omega)).trans ((uA c (by omega)).trans ((u9 c hcs).trans ((u8 c (by omega)).trans ((u7 c hcs).trans (o6 c hc hcs)))))⟩
    have fin : exI TT (FI.of Tryd.f81 (TT.an 81)) R81_0_0 [(0, .ptr s 0), (1, .int .i64 w), (4, .ptr σ.n 0), (5, .ptr (σ.n + 1 + 1) 0), (6, .int .i64 kind), (7, .int .i64 w), (16, .bool false)] σ6 = some (.agg [.int .i64 w, .sl b 0 w w, .int .i64 1], σB) := by
      rw [fi81]
      simp only [R81_0_0, b81, Tryd.f81, Option.getD, fstC, sndC, bodyC, thnC, elsC]
      simp [xI_seq, xI_region, xI_ret, regA, regOps, runOps, opStep, wantedA, opA, evo, evos, calleeA, lk, nif_eq, putE, paramsE, valS, val2, keepE, restrict, finA, resA, binA, binInt, ofConst, ofConst1, loadA, TK.isAgg, asVar, unA, builtinA, lenOpA, lenA, ileb_cast, ileb_eq, ieqb_dec, indexAddrA, inB_dec, evPairs, storeA, AV.cellsOf, pairsOf, xI_nil, binBool, gcE, evOpt, tagZ, xI_block, xI_loopH, xI_condM, xI_exitM, xI_skip, xI_blk, exitA, ty2, ty24, ty36, ty51, eK81_0_0, fieldAddrA, allOne, AV.one, n_push, ty2, ty3, ty5, ty32, ty24, ty51, ty36, ty96, ty141, ty143, z1, z2, c7, c8, c9, cA, g1, cB, g2]
    have all := c6.trans fin
    rw [cI_0 fn81 rfl md81, show ((1 : Nat) : Int) = 1 from rfl, ← all, fi81]
    simp [xI_seq, xI_region, xI_ret, regA, regOps, runOps, opStep, wantedA, opA, evo, evos, calleeA, lk, nif_eq, putE, paramsE, valS, val2, keepE, restrict, finA, resA, binA, binInt, ofConst, ofConst1, loadA, TK.isAgg, asVar, unA, builtinA, lenOpA, lenA, ileb_cast, ileb_eq, ieqb_dec, indexAddrA, inB_dec, evPairs, storeA, AV.cellsOf, pairsOf, xI_nil, binBool, gcE, evOpt, tagZ, xI_block, xI_loopH, xI_condM, xI_exitM, xI_skip, xI_blk, exitA, ty2, ty24, ty36, ty51, eK81_0_0, fieldAddrA, allOne, AV.one, n_push, ty2, ty3, ty5, ty32, ty24, ty51, ty36, ty96, ty141, ty143, buildA, sizesOf, fillA, putCells, e1, n1, bn0, e2, n2, e3, n3, c4, c5]
    rfl
  | false =>
    have g1 := D9.c3
    obtain ⟨σB, cB, PB, nB, uB⟩ := P9.s3 (in_one w) (sl_one b w) (in_one o1)
    have g2 := PB.c3
    refine ⟨b, o1, R, σB, ?_, hR, hB, ho, R9.keep (by omega) (uB _ (by omega)), fun c hc hcs => (uB c (by omega)).trans ((u9 c hcs).trans ((u8 c (by omega)).trans ((u7 c hcs).trans (o6 c hc hcs))))⟩
    have fin : exI TT (FI.of Tryd.f81 (TT.an 81)) R81_0_0 [(0, .ptr s 0), (1, .int .i64 w), (4, .ptr σ.n 0), (5, .ptr (σ.n + 1 + 1) 0), (6, .int .i64 kind), (7, .int .i64 w), (16, .bool false)] σ6 = some (.agg [.int .i64 w, .sl b 0 w w, .int .i64 o1], σB) := by
      rw [fi81]
      simp only [R81_0_0, b81, Tryd.f81, Option.getD, fstC, sndC, bodyC, thnC, elsC]
      simp [xI_seq, xI_region, xI_ret, regA, regOps, runOps, opStep, wantedA, opA, evo, evos, calleeA, lk, nif_eq, putE, paramsE, valS, val2, keepE, restrict, finA, resA, binA, binInt, ofConst, ofConst1, loadA, TK.isAgg, asVar, unA, builtinA, lenOpA, lenA, ileb_cast, ileb_eq, ieqb_dec, indexAddrA, inB_dec, evPairs, storeA, AV.cellsOf, pairsOf, xI_nil, binBool, gcE, evOpt, tagZ, xI_block, xI_loopH, xI_condM, xI_exitM, xI_skip, xI_blk, exitA, ty2, ty24, ty36, ty51, eK81_0_0, fieldAddrA, allOne, AV.one, n_push, ty2, ty3, ty5, ty32, ty24, ty51, ty36, ty96, ty141, ty143, z1, z2, c7, c8, c9, g1, cB, g2]
    have all := c6.trans fin
    rw [cI_0 fn81 rfl md81, ← all, fi81]
    simp [xI_seq, xI_region, xI_ret, regA, regOps, runOps, opStep, wantedA, opA, evo, evos, calleeA, lk, nif_eq, putE, paramsE, valS, val2, keepE, restrict, finA, resA, binA, binInt, ofConst, ofConst1, loadA, TK.isAgg, asVar, unA, builtinA, lenOpA, lenA, ileb_cast, ileb_eq, ieqb_dec, indexAddrA, inB_dec, evPairs, storeA, AV.cellsOf, pairsOf, xI_nil, binBool, gcE, evOpt, tagZ, xI_block, xI_loopH, xI_condM, xI_exitM, xI_skip, xI_blk, exitA, ty2, ty24, ty36, ty51, eK81_0_0, fieldAddrA, allOne, AV.one, n_push, ty2, ty3, ty5, ty32, ty24, ty51, ty36, ty96, ty141, ty143, buildA, sizesOf, fillA, putCells, e1, n1, bn0, e2, n2, e3, n3, c4, c5]
    rfl
theorem frz_lin {σ : St} {b w : Nat} {o : Int} {R : List Nat} (h : Row σ b (nints R)) (hw : R.length = w) : frzV σ frzDepth (.agg [.int .i64 w, .sl b 0 w w, .int .i64 o]) = some (.agg (lin w (nints R) o)) := by
  rw [lin_eq, nints_length, hw]
  exact frzV_agg (mapO_cons rfl (mapO_cons (h.frz (by rw [nints_length, hw]) (Nat.le_refl _)) (mapO_cons rfl rfl)))

theorem v34 (l : List Nat) (hl : ∀ x ∈ l, x < 256) (hll : l.length ≤ 1000) : ∃ (A : List Nat) (k : Nat), 1 ≤ A.length ∧ A.length ≤ 7 ∧ (∀ r ∈ A, r < pw A.length) ∧ k < pw A.length ∧ FnF TT 34 [.lst l.length (byts l)] (.agg (lin A.length (nints A) k)) := by
  obtain ⟨σ1, e1⟩ : ∃ σ1, (⟨[], 0⟩ : St).push ⟨[.int .i64 0, .nilS, .int .i64 0], 3, false⟩ = σ1 := ⟨_, rfl⟩
  have n1 : σ1.n = 1 := by subst e1; rfl
  have P1 : LINB σ1 0 (.int .i64 0) .nilS (.int .i64 0) := by subst e1; exact get_push_same
  obtain ⟨σ2, c2, S2, n2, o2⟩ := c65 l σ1
  rw [n1] at c2 S2
  have P2 := P1.keep (o2.2 0 (by omega))
  obtain ⟨x, k3, m3, σ3, c3, hx, S3, hk3, n3, u3⟩ := c66 l hl hll 0 0 (by decide) 7 (by decide) σ2 1 S2
  have hx : x < 7 := by omega
  have P3 := P2.keep (u3 0 (by decide))
  obtain ⟨q, k4, m4, σ4, c4, S4, hk4, n4, u4⟩ := c67 l hl hll k3 m3 (by omega) 4 (by decide) σ3 1 S3
  have P4 := P3.keep (u4 0 (by decide))
  have w0 : wrapA .i64 (1 + (x : Int)) = ((addN 1 x : Nat) : Int) := n_wrap (a := addN 1 x) (by show 1 + x ≤ _; omega)
  have hw1 : 1 ≤ addN 1 x := by show 1 ≤ 1 + x; omega
  have hw7 : addN 1 x ≤ 7 := by show 1 + x ≤ 7; omega
  generalize addN 1 x = w at *
  simp only [show ((7 : Nat) : Int) = 7 from rfl] at c3
  simp only [show ((4 : Nat) : Int) = 4 from rfl] at c4
  have p2 : 1 < pw w := Nat.lt_of_lt_of_le (show 1 < 2 by decide) (Nat.pow_le_pow_right (show 0 < 2 by decide) hw1)
  cases q with
  | false =>
    obtain ⟨b, o, R, σ5, c5, hR, hB, ho, r5, u5⟩ := c81 l hl hll w (by omega) hw1 k4 m4 (by omega) σ4 1 S4
    have P5 := P4.keep (u5 0 (by omega) (by decide))
    obtain ⟨σ6, c6, P6, n6, u6⟩ := P5.s3 (in_one w) (sl_one b w) (in_one o)
    have g2 := P6.c3
    have b0 : b ≠ 0 := by
      rintro rfl
      obtain ⟨q, hq, _⟩ := r5
      rw [(show σ5.get 0 = _ from P5)] at hq
      simp at hq
    refine ⟨R, o, by omega, by omega, by rw [hR]; exact hB, by rw [hR]; exact ho, FnF.mk fn34 rfl md34 ⟨σ6, .agg [.int .i64 w, .sl b 0 w w, .int .i64 o], ?_, by rw [hR]; exact frz_lin (r5.keep (by omega) (u6 _ b0)) hR⟩⟩
    rw [fi34]
    simp [xI_seq, xI_region, xI_ret, regA, regOps, runOps, opStep, wantedA, opA, evo, evos, calleeA, lk, nif_eq, putE, paramsE, valS, val2, keepE, restrict, finA, resA, binA, binInt, ofConst, ofConst1, loadA, TK.isAgg, asVar, unA, builtinA, lenOpA, lenA, ileb_cast, ileb_eq, ieqb_dec, indexAddrA, inB_dec, evPairs, storeA, AV.cellsOf, pairsOf, xI_nil, binBool, gcE, evOpt, tagZ, xI_block, xI_loopH, xI_condM, xI_exitM, xI_skip, xI_blk, exitA, ty2, ty51, fieldAddrA, allOne, AV.one, n_push, ty2, ty3, ty5, ty32, ty24, ty51, ty36, ty96, ty141, ty143, e1, n1, c2, c3, w0, c4, c5, c6, g2]
  | true =>
    have w1 := wrapS (n := w) (by omega)
    obtain ⟨a, k5, m5, σ5, c5, ha, S5, hk5, n5, u5⟩ := c66 l hl hll k4 m4 (by omega) (w + 1) (by omega) σ4 1 S4
    have P5 := P4.keep (u5 0 (by decide))
    obtain ⟨b, k6, m6, σ6, c6, hb, S6, hk6, n6, u6⟩ := c66 l hl hll k5 m5 (by omega) (w + 1) (by omega) σ5 1 S5
    have P6 := P5.keep (u6 0 (by decide))
    obtain ⟨c, k7, m7, σ7, c7, hc, S7, hk7, n7, u7⟩ := c66 l hl hll k6 m6 (by omega) (w + 1) (by omega) σ6 1 S6
    have P7 := P6.keep (u7 0 (by decide))
    have ha : a ≤ w := by omega
    have hb : b ≤ w := by omega
    have hc : c ≤ w := by omega
    have ok : xsOk (w : Int) a b c = true := by
      simp only [xsOk, Bool.and_eq_true]
      exact ⟨inR_iff.2 ⟨by omega, by omega⟩, ⟨inR_iff.2 ⟨by omega, by omega⟩, inR_iff.2 ⟨by omega, by omega⟩⟩, inR_iff.2 ⟨by omega, by omega⟩⟩
    obtain ⟨q, c8⟩ := o80 w a b c σ7 [.int .i64 w, .int .i64 a, .int .i64 b, .int .i64 c] rfl
    rw [xsR_yes ok] at c8
    have hL : (xsL w a b c).length = w := by simp [xsL]
    have hB : ∀ r ∈ xsL w a b c, r < pw w := by
      intro r hr
      obtain ⟨i, _, rfl⟩ := List.mem_map.1 hr
      exact bitRow_lt w a b c i w
    simp only [linR, nints_length, hL] at c8
    obtain ⟨σ8, e8⟩ : ∃ σ8, σ7.push ⟨ints (nints (xsL w a b c)), 1, q⟩ = σ8 := ⟨_, rfl⟩
    rw [e8] at c8
    have h07 : 0 < σ7.n := by omega
    have n8 : σ8.n = σ7.n + 1 := by subst e8; rfl
    have P8 := P7.keep (σ' := σ8) (by subst e8; exact get_push_lt h07)
    have R8 : Row σ8 σ7.n (nints (xsL w a b c)) := by subst e8; exact Row.push
    obtain ⟨σ9, e9⟩ : ∃ σ9, σ8.push ⟨[.int .i64 0, .nilS, .int .i64 0], 3, false⟩ = σ9 := ⟨_, rfl⟩
    have n9 : σ9.n = σ8.n + 1 := by subst e9; rfl
    have P9 := P8.keep (σ' := σ9) (by subst e9; exact get_push_lt (by omega))
    have R9 : Row σ9 σ7.n (nints (xsL w a b c)) := by subst e9; exact R8.pushed
    have D9 : LINB σ9 σ8.n (.int .i64 0) .nilS (.int .i64 0) := by subst e9; exact get_push_same
    obtain ⟨σA, cA, DA, nA, uA⟩ := D9.s3 (in_one w) (sl_one σ7.n w) (in_one 1)
    have PA := P9.keep (uA 0 (by omega))
    have RA : Row σA σ7.n (nints (xsL w a b c)) := R9.keep (by omega) (uA _ (by omega))
    have g1 := DA.c3
    obtain ⟨σB, cB, PB, nB, uB⟩ := PA.s3 (in_one w) (sl_one σ7.n w) (in_one 1)
    have RB : Row σB σ7.n (nints (xsL w a b c)) := RA.keep (by omega) (uB _ (by omega))
    have g2 := PB.c3
    refine ⟨xsL w a b c, 1, by omega, by omega, by rw [hL]; exact hB, by rw [hL]; exact p2, FnF.mk fn34 rfl md34 ⟨σB, .agg [.int .i64 w, .sl σ7.n 0 w w, .int .i64 1], ?_, by rw [hL]; exact frz_lin RB hL⟩⟩
    simp only [Int.natCast_add, show ((1 : Nat) : Int) = 1 from rfl] at c5 c6 c7
    rw [fi34]
    simp [xI_seq, xI_region, xI_ret, regA, regOps, runOps, opStep, wantedA, opA, evo, evos, calleeA, lk, nif_eq, putE, paramsE, valS, val2, keepE, restrict, finA, resA, binA, binInt, ofConst, ofConst1, loadA, TK.isAgg, asVar, unA, builtinA, lenOpA, lenA, ileb_cast, ileb_eq, ieqb_dec, indexAddrA, inB_dec, evPairs, storeA, AV.cellsOf, pairsOf, xI_nil, binBool, gcE, evOpt, tagZ, xI_block, xI_loopH, xI_condM, xI_exitM, xI_skip, xI_blk, exitA, ty2, ty51, fieldAddrA, allOne, AV.one, n_push, ty2, ty3, ty5, ty32, ty24, ty51, ty36, ty96, ty141, ty143, e1, n1, c2, c3, w0, c4, w1, c5, c6, c7, c8, e9, cA, g1, cB, g2]
open Go.Wd
/-- The outputs of a machine. -/
def linS (A : List Nat) (k t i : Nat) : Bool := decide (par (andN k (steps A i t)) = 1)
theorem app_testBit : ∀ (A : List Nat) (s j r : Nat), A[j]? = some r → (app A s).testBit j = decide (par (r &&& s) = 1)
  | [], _, _, _, h => by simp at h
  | x :: A, s, 0, r, h => by
    have : x = r := by simpa using h
    subst this
    have := par_lt (x &&& s)
    rw [Nat.testBit_zero, app]
    congr 1
    rw [eq_iff_iff]; omega
  | x :: A, s, j + 1, r, h => by
    have := par_lt (x &&& s)
    rw [Nat.testBit_succ, app, show (par (x &&& s) + 2 * app A s) / 2 = app A s by omega]
    exact app_testBit A s j r (by simpa using h)
theorem outB_get (A : List Nat) (k : Nat) : ∀ (m t i : Nat), i < m → (outB A k m t)[i]? = some (bb (par (andN k (steps A i t))))
  | 0, t, i, h => by omega
  | m + 1, t, 0, _ => rfl
  | m + 1, t, i + 1, h => by
    rw [outB, List.getElem?_cons_succ, outB_get A k m (app A t) i (by omega)]; rfl
theorem bitf_outB {A : List Nat} {k t m i : Nat} (h : i < m) : bitf (outB A k m t) i = linS A k t i := by
  rw [bitf, outB_get A k m t i h, linS]
  rw [← bb_bit (par_lt _)]
  simp
theorem outB_bits (A : List Nat) (k : Nat) : ∀ m t, (outB A k m t).all isBit = true
  | 0, _ => rfl
  | m + 1, t => by rw [outB, List.all_cons, outB_bits A k m, bb_isBit (par_lt _)]; rfl
/-- A machine's outputs lie in as many sequences as its width. -/
theorem linS_dim {A : List Nat} {k t : Nat} (h64 : A.length ≤ 64) (hA : ∀ r ∈ A, r < 2 ^ A.length) (hk : k < 2 ^ A.length) : Dim A.length (linS A k t) := by
  have key : ∀ r, r < 2 ^ A.length → ∀ x, decide (par (r &&& x) = 1) = xs A.length (fun i => r.testBit i && x.testBit i) := by
    intro r hr x
    rw [par_and hr h64]
    cases xs A.length (fun i => r.testBit i && x.testBit i) <;> rfl
  refine ⟨fun j i => (steps A i t).testBit j, ⟨k.testBit, fun i => ?_⟩, fun j hj => ⟨(A[j]).testBit, fun i => ?_⟩⟩
  · exact key k hk _
  · show (steps A (i + 1) t).testBit j = _
    rw [steps_one, app_testBit A _ j A[j] (List.getElem?_eq_getElem hj)]
    exact key _ (hA _ (List.getElem_mem hj)) _
/-- The shortest register of a machine has its outputs for ever. -/
theorem same_reg {A : List Nat} {k t N : Nat} (h16 : A.length ≤ 16) (hA : ∀ r ∈ A, r < 2 ^ A.length) (hk : k < 2 ^ A.length) (hN : 2 * A.length ≤ N) :
    bmL (outB A k (2 * A.length) t) ≤ A.length ∧ outR (bmL (outB A k (2 * A.length) t)) (bmT (outB A k (2 * A.length) t)) N (ofB (bmL (outB A k (2 * A.length) t)) (bitf (outB A k (2 * A.length) t))) = outB A k N t := by
  obtain ⟨d, hd, c, hc⟩ := dim_gen (linS_dim (A := A) (k := k) (t := t) (by omega) hA hk)
  obtain ⟨l, hl⟩ : ∃ l, outB A k (2 * A.length) t = l := ⟨_, rfl⟩
  have hlen : l.length = 2 * A.length := by rw [← hl]; exact outB_length _ _ _ _
  have hbl : ∀ i, i < 2 * A.length → bitf l i = linS A k t i := fun i hi => by rw [← hl]; exact bitf_outB hi
  rw [hl]
  have hL := (bmL_lst l).le ((hc l.length).congr fun i hi => (hbl i (by omega)).symm)
  obtain ⟨hT, hG⟩ := bmT_gen (l := l) (by omega)
  have hG1 : Gen (bmL l) (bmT l).testBit (linS A k t) (2 * A.length) := by
    rw [hlen] at hG; exact hG.congr hbl
  have hG2 := lst_far hG1 hc (by omega : bmL l ≤ A.length) hd (Nat.le_refl _)
  refine ⟨by omega, ?_⟩
  have h6 : (outB A k N t).length = N := outB_length _ _ _ _
  have hb6 : ∀ i, i < N → bitf (outB A k N t) i = linS A k t i := fun i hi => bitf_outB hi
  have h7 := gen_out (l := outB A k N t) (outB_bits _ _ _ _) (w := bmL l) (by omega) (by omega) hT (by rw [h6]; exact (hG2 N).congr fun i hi => (hb6 i hi).symm)
  rw [h6] at h7
  rw [← h7]
  congr 1
  exact ofB_congr _ fun i hi => by rw [hbl i (by omega), hb6 i (by omega)]
theorem units_get1 : ∀ (k a j : Nat), j < k → (units a k)[j]? = some (2 ^ (a + j))
  | k + 1, a, 0, _ => rfl
  | k + 1, a, j + 1, h => by
    rw [units, List.getElem?_cons_succ, units_get1 k (a + 1) j (by omega), show a + 1 + j = a + (j + 1) by omega]
theorem par_pow {c n : Nat} (h : c < 64) : decide (par (2 ^ c &&& n) = 1) = n.testBit c := by
  rw [Nat.and_comm, and_two_pow]
  cases n.testBit c
  · simp [par_zero]
  · simp [par_two_pow h]
/-- The machine of a register steps as the register. -/
theorem own_step {k t n : Nat} (hk : k ≤ 15) (hn : n < 2 ^ (k + 1)) : app (units 1 k ++ [t]) n = rnext (k + 1) t n := by
  have h1 := app_lt (units 1 k ++ [t]) n
  have hlen : (units 1 k ++ [t]).length = k + 1 := by simp [units_length]
  rw [hlen] at h1
  have h2 := rnext_lt (t := t) hn
  apply Nat.eq_of_testBit_eq
  intro j
  by_cases hj : j < k + 1
  · rw [rnext_bit hn hj]
    by_cases hj2 : j + 1 < k + 1
    · rw [if_pos hj2, app_testBit (units 1 k ++ [t]) n j (2 ^ (1 + j)) (by rw [List.getElem?_append_left (by rw [units_length]; omega)]; exact units_get1 k 1 j (by omega)), par_pow (by omega), Nat.add_comm]
    · have : j = k := by omega
      subst this
      rw [if_neg hj2, app_testBit (units 1 j ++ [t]) n j t (by rw [List.getElem?_append_right (by rw [units_length]; exact Nat.le_refl _), units_length]; simp)]
      rfl
  · rw [Nat.testBit_lt_two_pow (Nat.lt_of_lt_of_le h1 (Nat.pow_le_pow_right (by decide) (by omega))), Nat.testBit_lt_two_pow (Nat.lt_of_lt_of_le h2 (Nat.pow_le_pow_right (by decide) (by omega)))]
theorem own_out {k t : Nat} (hk : k ≤ 15) : ∀ (m n : Nat), n < 2 ^ (k + 1) → outB (units 1 k ++ [t]) 1 m n = outR (k + 1) t m n
  | 0, _, _ => rfl
  | m + 1, n, hn => by
    have h1 : par (andN 1 n) = rbit (k + 1) n := by
      have h2 := par_pow (c := 0) (n := n) (by decide)
      rw [Nat.testBit_zero] at h2
      have h3 := par_lt (andN 1 n)
      have h4 : rbit (k + 1) n = n % 2 := by rw [rbit, if_neg (by omega)]; rfl
      rw [h4]
      have h5 : (par (andN 1 n) = 1) ↔ (n % 2 = 1) := by
        have := decide_eq_decide.1 h2
        exact this
      omega
    rw [outB, outR, h1, own_step hk hn, own_out hk m (rnext (k + 1) t n) (rnext_lt hn)]
theorem LINB.c0 {σ : St} {D : Nat} {a x c : AV} (h : LINB σ D a x c) : cellsAt σ (.ptr D 0) 1 = some [a] := by simp [cellsAt, (show σ.get D = _ from h), getCells, takeN, dropN]
theorem vst_of {A : List Nat} {k t : Nat} (h1 : 1 ≤ A.length) (h16 : A.length ≤ 16) (hA : ∀ r ∈ A, r < 2 ^ A.length) (hk : k < 2 ^ A.length) (ht : t < 2 ^ A.length) : vst (A.length : Int) (nints A) k t = true := by
  have hp : pw A.length = 2 ^ A.length := rfl
  simp only [vst, vlin, Bool.and_eq_true, decide_eq_true_eq, Int.toNat_natCast, nints_length, hp]
  have ha : allR (nints A) 0 (((2 ^ A.length : Nat) : Int) - 1) = true := by
    refine List.all_eq_true.2 fun x hx => ?_
    obtain ⟨r, hr, rfl⟩ := List.mem_map.1 hx
    have := hA r hr
    exact inR_iff.2 (by omega)
  exact ⟨⟨⟨⟨inR_iff.2 (by omega), trivial⟩, ha⟩, inR_iff.2 (by omega)⟩, inR_iff.2 (by omega)⟩
theorem lbOk_of {A : List Nat} {k t n : Nat} (h : vst (A.length : Int) (nints A) k t = true) (hn : n ≤ 400) : lbOk (A.length : Int) (nints A) k t n = true := by
  simp only [lbOk, h, Bool.true_and]; exact inR_iff.2 (by omega)


set_option maxHeartbeats 8000000 in
theorem w7 (code : List Nat) (hb : ∀ x ∈ code, x < 256) (more : List Nat) (hm : ∀ x ∈ more, x < 256) : FnV TT 7 [.lst code.length (byts code), .lst more.length (byts more)] (.bool true) := by
  refine FnV.mk fn7 rfl md7 ?_ (fun _ => rfl) rfl
  rw [fi7]
  have cl := v18 code more ⟨[], 0⟩ [.lst code.length (byts code), .lst more.length (byts more)] rfl
  by_cases hlong : 48 < code.length ∨ 48 < more.length
  · have e : (decide (48 < code.length) || decide (48 < more.length)) = true := by simpa using hlong
    rw [e] at cl
    refine ⟨⟨[], 0⟩, ?_⟩
    simp [xI_seq, xI_region, xI_ret, regA, regOps, runOps, opStep, wantedA, opA, evo, evos, calleeA, lk, nif_eq, putE, paramsE, valS, val2, keepE, restrict, finA, resA, binA, binInt, ofConst, ofConst1, loadA, TK.isAgg, asVar, unA, builtinA, lenOpA, lenA, ileb_cast, ileb_eq, ieqb_dec, indexAddrA, inB_dec, evPairs, storeA, AV.cellsOf, pairsOf, xI_nil, binBool, gcE, evOpt, tagZ, xI_block, xI_loopH, xI_condM, xI_exitM, xI_skip, xI_blk, exitA, ty2, ty3, ty4, ty9, ty27, ty36, ty51, runTr, pairsOk, pairOk, lstAt, lastOf, sameVal, AV.eqv, eqvs, eqvs_ints, regOps, blt_dec, cond_true, cond_false, fieldAddrA, allOne, AV.one, buildA, sizesOf, fillA, putCells, n_push, indexA, ty2, ty27, ty9, ty5, ty3, ty36, ty51, ty24, cl]
  · have e : (decide (48 < code.length) || decide (48 < more.length)) = false := by simp; omega
    rw [e] at cl
    obtain ⟨A, k, hA1, hA7, hAr, hkA, vL⟩ := v34 code hb (by omega)
    have hAr' : ∀ r ∈ A, r < 2 ^ A.length := hAr
    have hkA' : k < 2 ^ A.length := hkA
    have cL := vL ⟨[], 0⟩ [.lst code.length (byts code)] rfl rfl
    have hN2 : 1 ≤ 2 ^ A.length := Nat.one_le_two_pow
    have hN7 : 2 ^ A.length ≤ 2 ^ 7 := Nat.pow_le_pow_right (by decide) hA7
    -- the machine's box
    obtain ⟨σ0, e0⟩ : ∃ σ0, (⟨[], 0⟩ : St).push ⟨[.int .i64 0, .nilS, .int .i64 0], 3, false⟩ = σ0 := ⟨_, rfl⟩
    have n0 : σ0.n = 1 := by subst e0; rfl
    have L0 : LINB σ0 0 (.int .i64 0) .nilS (.int .i64 0) := by subst e0; exact get_push_same
    obtain ⟨σ1, s1, L1, n1, u1⟩ := L0.s3 (a' := .int .i64 A.length) (x' := .lst A.length (ints (nints A))) (c' := .int .i64 k) rfl rfl rfl
    replace n1 : σ1.n = 1 := by omega
    have q0 := L1.c0
    have q3 := L1.c3
    have hw64 : wrapA .u64 (A.length : Int) = (A.length : Int) := w_wrap .u64 (by simp only [topOf]; omega)
    have convU : ∀ σ, convA TT σ 2 36 (.int .i64 (A.length : Int)) = some (.int .u64 (A.length : Int), σ) := fun σ => by simp [convA, ty2, ty36, hw64]
    have hp := pow_i A.length (by omega)
    obtain ⟨t, ht, vn⟩ := v20 more hm (by omega) (2 ^ A.length) (by omega)
    replace ht : t < 2 ^ A.length := by omega
    have cn := vn σ1 [.lst more.length (byts more), .int .i64 (2 ^ A.length : Nat)] rfl
    have hv := vst_of hA1 (by omega) hAr' hkA' ht
    obtain ⟨hLW, hout⟩ := same_reg (A := A) (k := k) (t := t) (N := 60) (by omega) hAr' hkA' (by omega)
    have cR := v31 (A.length : Int) (nints A) k t (by rw [nints_length]; omega) σ1 [.agg (lin A.length (nints A) k), .int .i64 t] rfl
    have hl2 := outB_length A k (2 * A.length) t
    have hlb := outB_bits A k (2 * A.length) t
    rw [roV_yes hv] at cR
    obtain ⟨l, hl⟩ : ∃ l, outB A k (2 * A.length) t = l := ⟨_, rfl⟩
    rw [hl] at cR hLW hout hl2 hlb
    have hok : srOk l = true := by simp [srOk, isBits, hlb]; omega
    rw [srV, if_pos ⟨hok, by omega⟩] at cR
    obtain ⟨hT, _⟩ := bmT_gen (l := l) (by omega)
    have hS := ofB_lt (bitf l) (bmL l)
    -- the register's box
    obtain ⟨σ2, e2⟩ : ∃ σ2, σ1.push ⟨[.int .i64 0, .int .i64 0], 2, false⟩ = σ2 := ⟨_, rfl⟩
    have n2 : σ2.n = 2 := by subst e2; show σ1.n + 1 = 2; omega
    have Q2 : RGB σ2 1 0 0 := by
      have h := get_push_same (σ := σ1) (x := ⟨[.int .i64 0, .int .i64 0], 2, false⟩)
      rw [n1] at h; subst e2; exact h
    have L2 := L1.keep (σ' := σ2) (by subst e2; exact get_push_lt (by omega))
    obtain ⟨σ3, s3, Q3, n3, u3⟩ := Q2.s2 (bmL l) (bmT l)
    replace n3 : σ3.n = 2 := by omega
    have L3 := L2.keep (u3 0 (by decide))
    have q3c := L3.c3
    have q3w := L3.c0
    have r3c := Q3.cc
    have r3w := Q3.c0
    have cB := v35 (A.length : Int) (nints A) k t (60 : Nat) (by rw [nints_length]; omega) σ3 [.agg (lin A.length (nints A) k), .int .i64 t, .int .i64 (60 : Nat)] rfl
    have hok60 := lbOk_of hv (n := 60) (by decide)
    rw [lbV_yes hok60, hok60] at cB
    have ok : rbOk (bmL l) (bmT l) (ofB (bmL l) (bitf l) : Nat) (60 : Nat) = true := rbOk_of (by omega) hT hS (by decide)
    have cC := v21 (bmL l) (bmT l) (ofB (bmL l) (bitf l) : Nat) (60 : Nat) σ3 [.agg [.int .i64 (bmL l), .int .i64 (bmT l)], .int .i64 (ofB (bmL l) (bitf l) : Nat), .int .i64 (60 : Nat)] rfl
    rw [rbV_yes ok, ok, hout] at cC
    have hl60 := outB_length A k 60 t
    -- the drawn register
    obtain ⟨w, r, hw, hr, vr⟩ := v19 more hm (by omega)
    have cE := vr σ3 [.lst more.length (byts more)] rfl
    obtain ⟨σ4, e4⟩ : ∃ σ4, σ3.push ⟨[.int .i64 0, .int .i64 0], 2, false⟩ = σ4 := ⟨_, rfl⟩
    have n4 : σ4.n = 3 := by subst e4; show σ3.n + 1 = 3; omega
    have Q4 : RGB σ4 2 0 0 := by
      have h := get_push_same (σ := σ3) (x := ⟨[.int .i64 0, .int .i64 0], 2, false⟩)
      rw [n3] at h; subst e4; exact h
    obtain ⟨σ5, s5, Q5, n5, u5⟩ := Q4.s2 w r
    replace n5 : σ5.n = 3 := by omega
    have r5c := Q5.cc
    have r5w := Q5.c0
    have hO := o36 w r
    have bsne := bsne (outB A k 60 t)
    have hwl' : ¬ (A.length : Int) < (bmL l : Int) := by omega
    have hwl'' : ¬ A.length < bmL l := by omega
    clear hl hok hlb hout ok hok60 hT vL hAr hAr' hv vn vr
    simp only [lin, nints_length] at cL cR cB
    simp only [show ((60 : Nat) : Int) = 60 from rfl] at cB cC
    have hl60' : ((outB A k 60 t).length : Int) = 60 := by omega
    generalize outB A k 60 t = z at *
    generalize ofB (bmL l) (bitf l) = S at *
    generalize bmT l = T at *
    generalize bmL l = L at *
    have hwl3 : (L : Int) ≤ (A.length : Int) := by omega
    have hwl4 : L ≤ A.length := hLW
    generalize hN : 2 ^ A.length = N at *
    by_cases hw0 : w = 0
    · subst hw0
      have hreg : regR ((0 : Nat) : Int) r = none := by unfold regR; simp
      rw [hreg] at hO
      have cO := hO.nil (σ := σ5) (args := [.agg [.int .i64 (0 : Nat), .int .i64 r]]) rfl
      obtain ⟨σ6, e6⟩ : ∃ σ6, σ5.push ⟨[.int .i64 0, .nilS, .int .i64 0], 3, false⟩ = σ6 := ⟨_, rfl⟩
      have L6 : LINB σ6 3 (.int .i64 0) .nilS (.int .i64 0) := by
        have h := get_push_same (σ := σ5) (x := ⟨[.int .i64 0, .nilS, .int .i64 0], 3, false⟩)
        rw [n5] at h; subst e6; exact h
      obtain ⟨σ7, s7, L7, n7, u7⟩ := L6.s3 (a' := .int .i64 0) (x' := .nilS) (c' := .int .i64 0) rfl rfl rfl
      have Q7 : RGB σ7 2 ((0 : Nat) : Int) r := (Q5.keep (σ' := σ6) (by subst e6; exact get_push_lt (by omega))).keep (u7 2 (by decide))
      have r7w := Q7.c0
      simp only [show ((0 : Nat) : Int) = 0 from rfl] at s5 r5c r5w cO r7w cE
      refine ⟨σ7, ?_⟩
      simp [xI_seq, xI_region, xI_ret, regA, regOps, runOps, opStep, wantedA, opA, evo, evos, calleeA, lk, nif_eq, putE, paramsE, valS, val2, keepE, restrict, finA, resA, binA, binInt, ofConst, ofConst1, loadA, TK.isAgg, asVar, unA, builtinA, lenOpA, lenA, ileb_cast, ileb_eq, ieqb_dec, indexAddrA, inB_dec, evPairs, storeA, AV.cellsOf, pairsOf, xI_nil, binBool, gcE, evOpt, tagZ, xI_block, xI_loopH, xI_condM, xI_exitM, xI_skip, xI_blk, exitA, ty2, ty3, ty4, ty9, ty27, ty36, ty51, runTr, pairsOk, pairOk, lstAt, lastOf, sameVal, AV.eqv, eqvs, eqvs_ints, regOps, blt_dec, cond_true, cond_false, fieldAddrA, allOne, AV.one, buildA, sizesOf, fillA, putCells, n_push, indexA, ty2, ty27, ty9, ty5, ty3, ty36, ty51, ty24, cl, cL, e0, s1, q0, q3, convU, hp, cn, cR, e2, n1, s3, q3c, q3w, r3c, r3w, cB, cC, bsne, hl60, hl60', hwl', hwl'', hwl3, hwl4, cE, e4, n3, s5, r5c, r5w, cO, e6, n5, s7, r7w]
    · obtain ⟨v, rfl⟩ : ∃ v, w = v + 1 := ⟨w - 1, by omega⟩
      have hreg : regR ((v + 1 : Nat) : Int) r = some (((v + 1 : Nat) : Int), nints (units 1 v ++ [r]), 1) := regR_yes (by
        rw [vreg_of (by omega) hr]; simp; omega)
      rw [hreg] at hO
      obtain ⟨σ6, cO, R6, o6, n6⟩ := hO.row (σ := σ5) (args := [.agg [.int .i64 (v + 1 : Nat), .int .i64 r]]) rfl
      have hul : (units 1 v ++ [r]).length = v + 1 := by simp [units_length]
      rw [nints_length, hul] at cO
      rw [n5] at cO R6 n6
      obtain ⟨σ7, e7⟩ : ∃ σ7, σ6.push ⟨[.int .i64 0, .nilS, .int .i64 0], 3, false⟩ = σ7 := ⟨_, rfl⟩
      have n7 : σ7.n = 5 := by subst e7; show σ6.n + 1 = 5; omega
      have L7 : LINB σ7 4 (.int .i64 0) .nilS (.int .i64 0) := by
        have h := get_push_same (σ := σ6) (x := ⟨[.int .i64 0, .nilS, .int .i64 0], 3, false⟩)
        rw [n6] at h; subst e7; exact h
      obtain ⟨σ8, s8, L8, n8, u8⟩ := L7.s3 (a' := .int .i64 (v + 1 : Nat)) (x' := .sl 3 0 (v + 1) (v + 1)) (c' := .int .i64 1) rfl rfl rfl
      have Q6 : RGB σ6 2 ((v + 1 : Nat) : Int) r := Q5.keep (o6.2 2 (by omega))
      have Q8 : RGB σ8 2 ((v + 1 : Nat) : Int) r := (Q6.keep (σ' := σ7) (by subst e7; exact get_push_lt (by omega))).keep (u8 2 (by decide))
      have R8 : Row σ8 3 (nints (units 1 v ++ [r])) := by
        refine (R6.keep (σ' := σ7) (by omega) ?_).keep (by omega) (u8 3 (by decide))
        subst e7; exact get_push_lt (by omega)
      have r8w := Q8.c0
      have r8c := Q8.cc
      have l8c := L8.c3
      have hM2 : 1 ≤ 2 ^ (v + 1) := Nat.one_le_two_pow
      have hM7 : 2 ^ (v + 1) ≤ 2 ^ 7 := Nat.pow_le_pow_right (by decide) hw
      obtain ⟨x, hx, va⟩ := v23 code hb (by omega) 0 (by decide) (2 ^ (v + 1)) (by omega)
      replace hx : x < 2 ^ (v + 1) := by omega
      have cA := va σ8 [.lst code.length (byts code), .int .i64 (0 : Nat), .int .i64 (2 ^ (v + 1) : Nat)] rfl
      have hp2 := pow_i (v + 1) (by omega)
      have hv64 : wrapA .u64 ((v + 1 : Nat) : Int) = ((v + 1 : Nat) : Int) := w_wrap .u64 (by simp only [topOf]; omega)
      have convV : ∀ σ, convA TT σ 2 36 (.int .i64 ((v + 1 : Nat) : Int)) = some (.int .u64 ((v + 1 : Nat) : Int), σ) := fun σ => by simp only [convA, ty2, ty36, hv64]
      have ok2 : rbOk ((v + 1 : Nat) : Int) r x (30 : Nat) = true := rbOk_of (by omega) hr hx (by decide)
      have cF := v21 ((v + 1 : Nat) : Int) r x (30 : Nat) σ8 [.agg [.int .i64 ((v + 1 : Nat) : Int), .int .i64 r], .int .i64 x, .int .i64 (30 : Nat)] rfl
      rw [rbV_yes ok2, ok2] at cF
      have hown := own_out (k := v) (t := r) (by omega) 30 x hx
      have hAu : ∀ y ∈ units 1 v ++ [r], y < 2 ^ (units 1 v ++ [r]).length := by
        intro y hy
        rw [hul]
        rcases List.mem_append.1 hy with hy | hy
        · obtain ⟨j, hj⟩ := List.getElem?_of_mem hy
          have hjl : j < v := by
            have := (List.getElem?_eq_some_iff.1 hj).1
            rwa [units_length] at this
          rw [units_get1 v 1 j hjl] at hj
          cases hj
          exact Nat.pow_lt_pow_right (by decide) (by omega)
        · rw [List.mem_singleton.1 hy]; exact hr
      have hv2 := vst_of (A := units 1 v ++ [r]) (k := 1) (t := x) (by omega) (by omega) hAu (by rw [hul]; exact Nat.one_lt_two_pow (by omega)) (by rw [hul]; exact hx)
      have hok2 := lbOk_of hv2 (n := 30) (by decide)
      have cG := v35 ((units 1 v ++ [r]).length : Int) (nints (units 1 v ++ [r])) (1 : Nat) x (30 : Nat) (by rw [nints_length]; omega) σ8 [.agg [.int .i64 ((v + 1 : Nat) : Int), .sl 3 0 (v + 1) (v + 1), .int .i64 1], .int .i64 x, .int .i64 (30 : Nat)] (mapO_cons (by rw [hul]; exact frz_lin R8 hul) rfl)
      rw [lbV_yes hok2, hok2, hown] at cG
      simp only [show ((30 : Nat) : Int) = 30 from rfl] at cF cG
      simp only [show ((0 : Nat) : Int) = 0 from rfl] at cA
      have hV0 : (0 : Int) < ((v + 1 : Nat) : Int) := by omega
      have hV1 : ¬ ((v + 1 : Nat) : Int) ≤ 0 := by omega
      have hV2 : (0 : Int) ≤ ((v + 1 : Nat) : Int) := by omega
      have hV3 : ((v + 1 : Nat) : Int).toNat = v + 1 := Int.toNat_natCast _
      clear hok2 hv2 hAu hown ok2 va hO hreg hul R8 R6
      have bseq : binStr .eql (outR (v + 1) r 30 x) (outR (v + 1) r 30 x) = some (.bool true) := by simp [binStr]
      generalize outR (v + 1) r 30 x = y at *
      generalize hM : 2 ^ (v + 1) = M at *
      generalize hVV : ((v + 1 : Nat) : Int) = V at *
      refine ⟨σ8, ?_⟩
      simp [xI_seq, xI_region, xI_ret, regA, regOps, runOps, opStep, wantedA, opA, evo, evos, calleeA, lk, nif_eq, putE, paramsE, valS, val2, keepE, restrict, finA, resA, binA, binInt, ofConst, ofConst1, loadA, TK.isAgg, asVar, unA, builtinA, lenOpA, lenA, ileb_cast, ileb_eq, ieqb_dec, indexAddrA, inB_dec, evPairs, storeA, AV.cellsOf, pairsOf, xI_nil, binBool, gcE, evOpt, tagZ, xI_block, xI_loopH, xI_condM, xI_exitM, xI_skip, xI_blk, exitA, ty2, ty3, ty4, ty9, ty27, ty36, ty51, runTr, pairsOk, pairOk, lstAt, lastOf, sameVal, AV.eqv, eqvs, eqvs_ints, regOps, blt_dec, cond_true, cond_false, fieldAddrA, allOne, AV.one, buildA, sizesOf, fillA, putCells, n_push, indexA, ty2, ty27, ty9, ty5, ty3, ty36, ty51, ty24, cl, cL, e0, s1, q0, q3, convU, hp, cn, cR, e2, n1, s3, q3c, q3w, r3c, r3w, cB, cC, bsne, hl60, hl60', hwl', hwl'', hwl3, hwl4, cE, e4, n3, s5, r5c, r5w, cO, e7, n6, s8, r8w, r8c, l8c, convV, hp2, cA, cF, cG, bseq, hV0, hV1, hV2, hV3]

end Go.Proofs.YthkdbkjkccogfaaDoor
