/- Contracts and law: counts of naive shuffles. Nothing is claimed here; no condition. -/
import Derived.Test.YtaniaeefijgaiaaDg
import Derived.Test.YtaniaeefijgaiaaCe
namespace Go.Proofs.Ytaniaeefijgaiaa
open Go Go.Abs
set_option linter.unusedSimpArgs false
set_option linter.unusedVariables false
/-! ### Counts of naive shuffles: plain law -/
def carry (n : Nat) : Nat → List Int → List Int × Nat
  | 0, c => (c, 0)
  | m + 1, c => if at0 c m = (n : Int) - 1 then carry n m (c.set m 0) else (c, m + 1)
def nxtC (n : Nat) (c : List Int) : Option (List Int) :=
  match (carry n n c).2 with
  | 0 => none
  | j + 1 => some ((carry n n c).1.set j (at0 (carry n n c).1 j + 1))
def finC (n : Nat) : Nat → List Int → Bool
  | 0, _ => false
  | m + 1, c => match nxtC n c with
    | none => true
    | some c' => finC n m c'
def bump (n : Nat) (c out : List Int) : List Int := out.set (rankG (naive c 0 (iotaF 0 n)) n 0) (at0 out (rankG (naive c 0 (iotaF 0 n)) n 0) + 1)
def ncG (n : Nat) : Nat → List Int → List Int → List Int
  | 0, _, out => out
  | m + 1, c, out => match nxtC n c with
    | none => bump n c out
    | some c' => ncG n m c' (bump n c out)
def VC (n : Nat) (c : List Int) : Prop := c.length = n ∧ ∀ x ∈ c, 0 ≤ x ∧ x < n
theorem VC.set {n : Nat} {c : List Int} (h : VC n c) {i : Nat} {x : Int} (hx : 0 ≤ x ∧ x < n) : VC n (c.set i x) := by
  refine ⟨by simp [h.1], fun y hy => ?_⟩
  rcases List.mem_or_eq_of_mem_set hy with h1 | h1
  · exact h.2 y h1
  · rw [h1]; exact hx
theorem carry_spec {n : Nat} (hn : 1 ≤ n) : ∀ (m : Nat) (c : List Int), VC n c → m ≤ n → VC n (carry n m c).1 ∧ (carry n m c).2 ≤ m ∧ ∀ j, (carry n m c).2 = j + 1 → at0 (carry n m c).1 j ≠ (n : Int) - 1
  | 0, c, h, _ => ⟨h, Nat.le_refl _, fun j hj => by simp [carry] at hj⟩
  | m + 1, c, h, hm => by
    rw [carry]
    split
    · obtain ⟨h1, h2, h3⟩ := carry_spec hn m (c.set m 0) (h.set (by omega)) (by omega)
      exact ⟨h1, by omega, h3⟩
    · rename_i hne
      exact ⟨h, Nat.le_refl _, fun j hj => by simp at hj; subst hj; exact hne⟩
theorem nxtC_valid {n : Nat} (hn : 1 ≤ n) {c c' : List Int} (h : VC n c) (hc : nxtC n c = some c') : VC n c' := by
  obtain ⟨h1, h2, h3⟩ := carry_spec hn n c h (Nat.le_refl _)
  unfold nxtC at hc
  split at hc
  · cases hc
  · rename_i j hj
    cases hc
    have h4 := h3 j hj
    have h5 := h1.2 (at0 (carry n n c).1 j) (at0_mem (by rw [h1.1]; omega))
    exact h1.set (by omega)
theorem bump_length (n : Nat) (c out : List Int) : (bump n c out).length = out.length := by simp [bump]
theorem ncG_length (n : Nat) : ∀ (m : Nat) (c out : List Int), (ncG n m c out).length = out.length
  | 0, _, _ => rfl
  | m + 1, c, out => by
    rw [ncG]
    split
    · exact bump_length n c out
    · rw [ncG_length n m, bump_length]
set_option maxRecDepth 100000 in
theorem fin1 : finC 1 3126 (List.replicate 1 0) = true := by kernel_rfl
set_option maxRecDepth 100000 in
theorem fin2 : finC 2 3126 (List.replicate 2 0) = true := by kernel_rfl
set_option maxRecDepth 100000 in
theorem fin3 : finC 3 3126 (List.replicate 3 0) = true := by kernel_rfl
set_option maxRecDepth 100000 in
theorem fin4 : finC 4 3126 (List.replicate 4 0) = true := by kernel_rfl
set_option maxRecDepth 100000 in
theorem fin5 : finC 5 3126 (List.replicate 5 0) = true := by kernel_rfl
theorem fin_all {n : Nat} (h1 : 1 ≤ n) (h5 : n ≤ 5) : finC n 3126 (List.replicate n 0) = true := by
  have : n = 1 ∨ n = 2 ∨ n = 3 ∨ n = 4 ∨ n = 5 := by omega
  rcases this with rfl | rfl | rfl | rfl | rfl
  · exact fin1
  · exact fin2
  · exact fin3
  · exact fin4
  · exact fin5
def ncR (n : Int) : Option (List Int) := if inR n 1 5 = true then some (ncG n.toNat 3126 (List.replicate n.toNat 0) (List.replicate (fac n.toNat) 0)) else none
theorem ncR_length {n : Int} {out : List Int} (h : ncR n = some out) : out.length ≤ 479001600 ∧ out.length ≤ 120 := by
  unfold ncR at h
  split at h
  · rename_i hc
    have hr := inR_iff.1 hc
    cases h
    rw [ncG_length, List.length_replicate]
    have : n.toNat = 1 ∨ n.toNat = 2 ∨ n.toNat = 3 ∨ n.toNat = 4 ∨ n.toNat = 5 := by omega
    rcases this with h | h | h | h | h <;> rw [h] <;> exact ⟨by decide, by decide⟩
  · cases h

noncomputable def b35 : Code := Try.f35.body.getD .skip
noncomputable def B35_0 : Code := (bodyC (bodyC (sndC (sndC (sndC b35)))))
noncomputable def K35_0 : List It := .lp B35_0 :: .blk 0 :: []
theorem xl35_0 {fi : FI} {env : Env} {σ : St} : exI TT fi K35_0 env σ = exI TT fi (.code B35_0 :: K35_0) env σ := by unfold K35_0; exact xI_lp
noncomputable def R35_0_0 : List It := []
theorem eK35_0_0 : exitA 0 K35_0 = some R35_0_0 := rfl
noncomputable def B35_1 : Code := (bodyC (bodyC (fstC (sndC (sndC (bodyC (bodyC (bodyC (sndC (sndC (sndC b35)))))))))))
noncomputable def K35_1 : List It := .lp B35_1 :: .blk 2 :: .code (sndC (sndC (sndC (bodyC (bodyC (bodyC (sndC (sndC (sndC b35))))))))) :: .blk 1 :: K35_0
theorem xl35_1 {fi : FI} {env : Env} {σ : St} : exI TT fi K35_1 env σ = exI TT fi (.code B35_1 :: K35_1) env σ := by unfold K35_1; exact xI_lp
noncomputable def R35_1_2 : List It := .code (sndC (sndC (sndC (bodyC (bodyC (bodyC (sndC (sndC (sndC b35))))))))) :: .blk 1 :: K35_0
theorem eK35_1_2 : exitA 2 K35_1 = some R35_1_2 := rfl
noncomputable def R35_1_1 : List It := K35_0
theorem eK35_1_1 : exitA 1 K35_1 = some R35_1_1 := rfl
theorem eK35_1_0 : exitA 0 K35_1 = some R35_0_0 := rfl
noncomputable def b34 : Code := Try.f34.body.getD .skip
noncomputable def B34_0 : Code := (bodyC (bodyC (sndC (sndC (sndC (sndC b34))))))
noncomputable def K34_0 : List It := .lp B34_0 :: .blk 0 :: []
theorem xl34_0 {fi : FI} {env : Env} {σ : St} : exI TT fi K34_0 env σ = exI TT fi (.code B34_0 :: K34_0) env σ := by unfold K34_0; exact xI_lp
noncomputable def R34_0_0 : List It := []
theorem eK34_0_0 : exitA 0 K34_0 = some R34_0_0 := rfl
noncomputable def B34_1 : Code := (bodyC (bodyC (fstC (sndC (sndC (bodyC (bodyC (bodyC (sndC (sndC (sndC (sndC b34))))))))))))
noncomputable def K34_1 : List It := .lp B34_1 :: .blk 2 :: .code (sndC (sndC (sndC (bodyC (bodyC (bodyC (sndC (sndC (sndC (sndC b34)))))))))) :: .blk 1 :: K34_0
theorem xl34_1 {fi : FI} {env : Env} {σ : St} : exI TT fi K34_1 env σ = exI TT fi (.code B34_1 :: K34_1) env σ := by unfold K34_1; exact xI_lp
noncomputable def R34_1_2 : List It := .code (sndC (sndC (sndC (bodyC (bodyC (bodyC (sndC (sndC (sndC (sndC b34)))))))))) :: .blk 1 :: K34_0
theorem eK34_1_2 : exitA 2 K34_1 = some R34_1_2 := rfl
noncomputable def R34_1_1 : List It := K34_0
theorem eK34_1_1 : exitA 1 K34_1 = some R34_1_1 := rfl
theorem eK34_1_0 : exitA 0 K34_1 = some R34_0_0 := rfl
set_option maxHeartbeats 2000000 in
theorem d35 (n : Nat) (hn : n ≤ 5) (hn1 : 1 ≤ n) (V4 : AV) (bc : Nat) : ∀ (m : Nat) (c : List Int) (σ : St), VC n c → m ≤ n → Row σ bc c →
    ∃ σ', exI TT (FI.of Try.f35 (TT.an 35)) K35_1 [(0, .int .i64 n), (4, V4), (5, .sl bc 0 n n), (6, .int .i64 ((m : Int) - 1))] σ = exI TT (FI.of Try.f35 (TT.an 35)) R35_1_2 [(0, .int .i64 n), (4, V4), (5, .sl bc 0 n n), (6, .int .i64 (((carry n m c).2 : Int) - 1)), (35, .bool false)] σ' ∧ Row σ' bc (carry n m c).1 ∧ But bc σ σ' := by
  intro m
  induction m with
  | zero =>
    intro c σ hc hm hr
    refine ⟨σ, ?_, hr, rfl, fun _ _ => rfl⟩
    rw [fi35, xl35_1]
    simp only [B35_1, b35, Try.f35, Option.getD, fstC, sndC, bodyC, thnC, elsC]
    simp (maxSteps := 1000000) (disch := omega) [xI_seq, xI_region, xI_ret, regA, regOps, runOps, opStep, wantedA, opA, evo, evos, calleeA, lk, nif_eq, putE, paramsE, valS, val2, keepE, restrict, finA, resA, binA, binInt, ofConst, ofConst1, loadA, TK.isAgg, asVar, unA, builtinA, lenOpA, lenA, indexAddrA, evPairs, storeA, AV.cellsOf, pairsOf, xI_nil, binBool, gcE, evOpt, runTr, pairsOk, pairOk, sameVal, AV.eqv, lastOf, lstAt, eqvs, boundA, indexA, regF, twoOf, prsOf, memI, runTrF, selF, runTr2, freshOp, scals, AV.scal, xI_block, xI_loopH, xI_condM, xI_exitM, xI_skip, xI_blk, exitA, List.getElem?_cons_zero, List.getElem?_cons_succ, List.getElem?_toArray, List.getElem?_nil, ileb_t, ileb_f, ieqb_t, ieqb_f, inB_t, wrapA_id, lp_read, ieqb_self, Nat.blt_eq, cond_true, cond_false, ty2, ty4, ty22, eK35_0_0, eK35_1_2, eK35_1_1, eK35_1_0, carry]
  | succ m ih =>
    intro c σ hc hm hr
    have hv := hc.2 (at0 c m) (at0_mem (by rw [hc.1]; omega))
    have hrd := row_rd (i := m) hr (by rw [hc.1]; omega)
    have hcast : ((m + 1 : Nat) : Int) - 1 = (m : Int) := by omega
    rw [hcast, carry]
    by_cases he : at0 c m = (n : Int) - 1
    · rw [if_pos he]
      obtain ⟨σ1, s1, r1, n1, o1⟩ := store_row (i := m) (x := 0) hr (by rw [hc.1]; omega)
      obtain ⟨σ', h1, h2, h3⟩ := ih (c.set m 0) σ1 (hc.set (by omega)) (by omega) r1
      refine ⟨σ', ?_, h2, h3.1.trans n1, fun x hx => (h3.2 x hx).trans (o1 x hx)⟩
      rw [← h1]
      rw [fi35, xl35_1]
      simp only [B35_1, b35, Try.f35, Option.getD, fstC, sndC, bodyC, thnC, elsC]
      simp (maxSteps := 1000000) (disch := omega) [xI_seq, xI_region, xI_ret, regA, regOps, runOps, opStep, wantedA, opA, evo, evos, calleeA, lk, nif_eq, putE, paramsE, valS, val2, keepE, restrict, finA, resA, binA, binInt, ofConst, ofConst1, loadA, TK.isAgg, asVar, unA, builtinA, lenOpA, lenA, indexAddrA, evPairs, storeA, AV.cellsOf, pairsOf, xI_nil, binBool, gcE, evOpt, runTr, pairsOk, pairOk, sameVal, AV.eqv, lastOf, lstAt, eqvs, boundA, indexA, regF, twoOf, prsOf, memI, runTrF, selF, runTr2, freshOp, scals, AV.scal, xI_block, xI_loopH, xI_condM, xI_exitM, xI_skip, xI_blk, exitA, List.getElem?_cons_zero, List.getElem?_cons_succ, List.getElem?_toArray, List.getElem?_nil, ileb_t, ileb_f, ieqb_t, ieqb_f, inB_t, wrapA_id, lp_read, ieqb_self, Nat.blt_eq, cond_true, cond_false, ty2, ty4, ty22, eK35_0_0, eK35_1_2, eK35_1_1, eK35_1_0, hrd, s1, he]
    · rw [if_neg he]
      refine ⟨σ, ?_, hr, rfl, fun _ _ => rfl⟩
      rw [fi35, xl35_1]
      simp only [B35_1, b35, Try.f35, Option.getD, fstC, sndC, bodyC, thnC, elsC]
      simp (maxSteps := 1000000) (disch := omega) [xI_seq, xI_region, xI_ret, regA, regOps, runOps, opStep, wantedA, opA, evo, evos, calleeA, lk, nif_eq, putE, paramsE, valS, val2, keepE, restrict, finA, resA, binA, binInt, ofConst, ofConst1, loadA, TK.isAgg, asVar, unA, builtinA, lenOpA, lenA, indexAddrA, evPairs, storeA, AV.cellsOf, pairsOf, xI_nil, binBool, gcE, evOpt, runTr, pairsOk, pairOk, sameVal, AV.eqv, lastOf, lstAt, eqvs, boundA, indexA, regF, twoOf, prsOf, memI, runTrF, selF, runTr2, freshOp, scals, AV.scal, xI_block, xI_loopH, xI_condM, xI_exitM, xI_skip, xI_blk, exitA, List.getElem?_cons_zero, List.getElem?_cons_succ, List.getElem?_toArray, List.getElem?_nil, ileb_t, ileb_f, ieqb_t, ieqb_f, inB_t, wrapA_id, lp_read, ieqb_self, Nat.blt_eq, cond_true, cond_false, ty2, ty4, ty22, eK35_0_0, eK35_1_2, eK35_1_1, eK35_1_0, hrd]
set_option maxHeartbeats 4000000 in
theorem l35 (n : Nat) (hn : n ≤ 5) (hn1 : 1 ≤ n) : ∀ (m : Nat) (c out : List Int) (σ : St) (bo bc nn : Nat), finC n m c = true → VC n c → nn = fac n → out.length = fac n → (∀ r, 0 ≤ at0 out r ∧ at0 out r + m ≤ 10000) → bo ≠ bc → Row σ bo out → Row σ bc c →
    ∃ σ', exI TT (FI.of Try.f35 (TT.an 35)) K35_0 [(0, .int .i64 n), (4, .sl bo 0 nn nn), (5, .sl bc 0 n n)] σ = some (.tup [.sl bo 0 nn nn, .bool true], σ') ∧ Row σ' bo (ncG n m c out) := by
  intro m
  induction m with
  | zero => intro c out σ bo bc nn hf; cases hf
  | succ m ih =>
    intro c out σ bo bc nn hf hc hnn ho hb hbb hr hr2
    obtain ⟨b1, σ1, c1, r1, o1, e1⟩ := FnS.row (s79 c n hc.1.symm (by omega) hc.2) (σ := σ) (args := [.sl bc 0 n n]) (mapO_cons (hr2.frz hc.1.symm (Nat.le_refl _)) rfl)
    have hnl : (naive c 0 (iotaF 0 n)).length = n := by rw [naive_length, iotaF_length]
    rw [hnl] at c1
    have c2 := v81 (naive c 0 (iotaF 0 n)) n hnl.symm (by omega) σ1 [.sl b1 0 n n] (mapO_cons (r1.frz hnl.symm (Nat.le_refl _)) rfl)
    have hrk := rankG_lt (naive c 0 (iotaF 0 n)) n 0
    have hbu : bump n c out = out.set (rankG (naive c 0 (iotaF 0 n)) n 0) (at0 out (rankG (naive c 0 (iotaF 0 n)) n 0) + 1) := rfl
    generalize rankG (naive c 0 (iotaF 0 n)) n 0 = rk at *
    have hbr := hb rk
    have r1o := hr.old o1
    have r1c := hr2.old o1
    have g1 := row_rd (i := rk) r1o (by omega)
    obtain ⟨σ2, s2, r2, n2, o2⟩ := store_row (i := rk) (x := at0 out rk + 1) r1o (by omega)
    rw [← hbu] at r2
    have r2c := r1c.keep (Nat.le_of_eq n2.symm) (o2 bc (fun e => hbb e.symm))
    obtain ⟨σ3, h3, r3, u3⟩ := d35 n hn hn1 (.sl bo 0 nn nn) bc n c σ2 hc (Nat.le_refl _) r2c
    have r3o := r2.but hbb u3
    obtain ⟨v1, v2, v3⟩ := carry_spec hn1 n c hc (Nat.le_refl _)
    rw [finC] at hf
    rw [ncG]
    have hnb : ∀ r, 0 ≤ at0 (bump n c out) r ∧ at0 (bump n c out) r + m ≤ 10000 := fun r => by
      rw [hbu, at0_set _ _ _ _ (by omega)]
      have := hb r
      split <;> omega
    cases hj : (carry n n c).2 with
    | zero =>
      have hN : nxtC n c = none := by unfold nxtC; rw [hj]
      rw [hN]
      refine ⟨σ3, ?_, r3o⟩
      rw [hj] at h3
      rw [fi35] at h3 ⊢
      rw [xl35_0]
      simp only [B35_0, b35, Try.f35, Option.getD, fstC, sndC, bodyC, thnC, elsC]
      simp (maxSteps := 1000000) (disch := omega) [xI_seq, xI_region, xI_ret, regA, regOps, runOps, opStep, wantedA, opA, evo, evos, calleeA, lk, nif_eq, putE, paramsE, valS, val2, keepE, restrict, finA, resA, binA, binInt, ofConst, ofConst1, loadA, TK.isAgg, asVar, unA, builtinA, lenOpA, lenA, indexAddrA, evPairs, storeA, AV.cellsOf, pairsOf, xI_nil, binBool, gcE, evOpt, runTr, pairsOk, pairOk, sameVal, AV.eqv, lastOf, lstAt, eqvs, boundA, indexA, regF, twoOf, prsOf, memI, runTrF, selF, runTr2, freshOp, scals, AV.scal, xI_block, xI_loopH, xI_condM, xI_exitM, xI_skip, xI_blk, exitA, List.getElem?_cons_zero, List.getElem?_cons_succ, List.getElem?_toArray, List.getElem?_nil, ileb_t, ileb_f, ieqb_t, ieqb_f, inB_t, wrapA_id, lp_read, ieqb_self, Nat.blt_eq, cond_true, cond_false, ty2, ty4, ty22, eK35_0_0, eK35_1_2, eK35_1_1, eK35_1_0, c1, c2, g1, s2]
      refine h3.trans ?_
      simp only [R35_1_2, b35, Try.f35, Option.getD, fstC, sndC, bodyC, thnC, elsC]
      simp (maxSteps := 1000000) (disch := omega) [xI_seq, xI_region, xI_ret, regA, regOps, runOps, opStep, wantedA, opA, evo, evos, calleeA, lk, nif_eq, putE, paramsE, valS, val2, keepE, restrict, finA, resA, binA, binInt, ofConst, ofConst1, loadA, TK.isAgg, asVar, unA, builtinA, lenOpA, lenA, indexAddrA, evPairs, storeA, AV.cellsOf, pairsOf, xI_nil, binBool, gcE, evOpt, runTr, pairsOk, pairOk, sameVal, AV.eqv, lastOf, lstAt, eqvs, boundA, indexA, regF, twoOf, prsOf, memI, runTrF, selF, runTr2, freshOp, scals, AV.scal, xI_block, xI_loopH, xI_condM, xI_exitM, xI_skip, xI_blk, exitA, List.getElem?_cons_zero, List.getElem?_cons_succ, List.getElem?_toArray, List.getElem?_nil, ileb_t, ileb_f, ieqb_t, ieqb_f, inB_t, wrapA_id, lp_read, ieqb_self, Nat.blt_eq, cond_true, cond_false, ty2, ty4, ty22, eK35_0_0, eK35_1_2, eK35_1_1, eK35_1_0]
    | succ j =>
      have hN : nxtC n c = some ((carry n n c).1.set j (at0 (carry n n c).1 j + 1)) := by unfold nxtC; rw [hj]
      have hvn := nxtC_valid hn1 hc hN
      rw [hN] at hf ⊢
      have hjn : j < n := by omega
      have hvj := v1.2 (at0 (carry n n c).1 j) (at0_mem (by rw [v1.1]; omega))
      have g3 := row_rd (i := j) r3 (by rw [v1.1]; omega)
      obtain ⟨σ4, s4, r4, n4, o4⟩ := store_row (i := j) (x := at0 (carry n n c).1 j + 1) r3 (by rw [v1.1]; omega)
      have r4o := r3o.keep (Nat.le_of_eq n4.symm) (o4 bo hbb)
      obtain ⟨σ', k1, k2⟩ := ih _ (bump n c out) σ4 bo bc nn hf hvn hnn (by rw [bump_length]; exact ho) hnb hbb r4o r4
      refine ⟨σ', ?_, k2⟩
      rw [← k1]
      rw [hj] at h3
      have hcast : ((j + 1 : Nat) : Int) - 1 = (j : Int) := by omega
      rw [hcast] at h3
      generalize carry n n c = cc at *
      rw [fi35] at h3 ⊢
      rw [xl35_0]
      simp only [B35_0, b35, Try.f35, Option.getD, fstC, sndC, bodyC, thnC, elsC]
      simp (maxSteps := 1000000) (disch := omega) [xI_seq, xI_region, xI_ret, regA, regOps, runOps, opStep, wantedA, opA, evo, evos, calleeA, lk, nif_eq, putE, paramsE, valS, val2, keepE, restrict, finA, resA, binA, binInt, ofConst, ofConst1, loadA, TK.isAgg, asVar, unA, builtinA, lenOpA, lenA, indexAddrA, evPairs, storeA, AV.cellsOf, pairsOf, xI_nil, binBool, gcE, evOpt, runTr, pairsOk, pairOk, sameVal, AV.eqv, lastOf, lstAt, eqvs, boundA, indexA, regF, twoOf, prsOf, memI, runTrF, selF, runTr2, freshOp, scals, AV.scal, xI_block, xI_loopH, xI_condM, xI_exitM, xI_skip, xI_blk, exitA, List.getElem?_cons_zero, List.getElem?_cons_succ, List.getElem?_toArray, List.getElem?_nil, ileb_t, ileb_f, ieqb_t, ieqb_f, inB_t, wrapA_id, lp_read, ieqb_self, Nat.blt_eq, cond_true, cond_false, ty2, ty4, ty22, eK35_0_0, eK35_1_2, eK35_1_1, eK35_1_0, c1, c2, g1, s2]
      refine h3.trans ?_
      simp only [R35_1_2, b35, Try.f35, Option.getD, fstC, sndC, bodyC, thnC, elsC]
      simp (maxSteps := 1000000) (disch := omega) [xI_seq, xI_region, xI_ret, regA, regOps, runOps, opStep, wantedA, opA, evo, evos, calleeA, lk, nif_eq, putE, paramsE, valS, val2, keepE, restrict, finA, resA, binA, binInt, ofConst, ofConst1, loadA, TK.isAgg, asVar, unA, builtinA, lenOpA, lenA, indexAddrA, evPairs, storeA, AV.cellsOf, pairsOf, xI_nil, binBool, gcE, evOpt, runTr, pairsOk, pairOk, sameVal, AV.eqv, lastOf, lstAt, eqvs, boundA, indexA, regF, twoOf, prsOf, memI, runTrF, selF, runTr2, freshOp, scals, AV.scal, xI_block, xI_loopH, xI_condM, xI_exitM, xI_skip, xI_blk, exitA, List.getElem?_cons_zero, List.getElem?_cons_succ, List.getElem?_toArray, List.getElem?_nil, ileb_t, ileb_f, ieqb_t, ieqb_f, inB_t, wrapA_id, lp_read, ieqb_self, Nat.blt_eq, cond_true, cond_false, ty2, ty4, ty22, eK35_0_0, eK35_1_2, eK35_1_1, eK35_1_0, g3, s4]

set_option maxHeartbeats 2000000 in
theorem d34 (n : Nat) (hn : n ≤ 5) (hn1 : 1 ≤ n) (V4 : AV) (bc : Nat) : ∀ (m : Nat) (c : List Int) (σ : St), VC n c → m ≤ n → Row σ bc c →
    ∃ σ', exI TT (FI.of Try.f34 (TT.an 34)) K34_1 [(0, .int .i64 n), (4, V4), (5, .sl bc 0 n n), (6, .int .i64 ((m : Int) - 1))] σ = exI TT (FI.of Try.f34 (TT.an 34)) R34_1_2 [(0, .int .i64 n), (4, V4), (5, .sl bc 0 n n), (6, .int .i64 (((carry n m c).2 : Int) - 1)), (35, .bool false)] σ' ∧ Row σ' bc (carry n m c).1 ∧ But bc σ σ' := by
  intro m
  induction m with
  | zero =>
    intro c σ hc hm hr
    refine ⟨σ, ?_, hr, rfl, fun _ _ => rfl⟩
    rw [fi34, xl34_1]
    simp only [B34_1, b34, Try.f34, Option.getD, fstC, sndC, bodyC, thnC, elsC]
    simp (maxSteps := 1000000) (disch := omega) [xI_seq, xI_region, xI_ret, regA, regOps, runOps, opStep, wantedA, opA, evo, evos, calleeA, lk, nif_eq, putE, paramsE, valS, val2, keepE, restrict, finA, resA, binA, binInt, ofConst, ofConst1, loadA, TK.isAgg, asVar, unA, builtinA, lenOpA, lenA, indexAddrA, evPairs, storeA, AV.cellsOf, pairsOf, xI_nil, binBool, gcE, evOpt, runTr, pairsOk, pairOk, sameVal, AV.eqv, lastOf, lstAt, eqvs, boundA, indexA, regF, twoOf, prsOf, memI, runTrF, selF, runTr2, freshOp, scals, AV.scal, xI_block, xI_loopH, xI_condM, xI_exitM, xI_skip, xI_blk, exitA, List.getElem?_cons_zero, List.getElem?_cons_succ, List.getElem?_toArray, List.getElem?_nil, ileb_t, ileb_f, ieqb_t, ieqb_f, inB_t, wrapA_id, lp_read, ieqb_self, Nat.blt_eq, cond_true, cond_false, ty2, ty4, ty22, eK34_0_0, eK34_1_2, eK34_1_1, eK34_1_0, carry]
  | succ m ih =>
    intro c σ hc hm hr
    have hv := hc.2 (at0 c m) (at0_mem (by rw [hc.1]; omega))
    have hrd := row_rd (i := m) hr (by rw [hc.1]; omega)
    have hcast : ((m + 1 : Nat) : Int) - 1 = (m : Int) := by omega
    rw [hcast, carry]
    by_cases he : at0 c m = (n : Int) - 1
    · rw [if_pos he]
      obtain ⟨σ1, s1, r1, n1, o1⟩ := store_row (i := m) (x := 0) hr (by rw [hc.1]; omega)
      obtain ⟨σ', h1, h2, h3⟩ := ih (c.set m 0) σ1 (hc.set (by omega)) (by omega) r1
      refine ⟨σ', ?_, h2, h3.1.trans n1, fun x hx => (h3.2 x hx).trans (o1 x hx)⟩
      rw [← h1]
      rw [fi34, xl34_1]
      simp only [B34_1, b34, Try.f34, Option.getD, fstC, sndC, bodyC, thnC, elsC]
      simp (maxSteps := 1000000) (disch := omega) [xI_seq, xI_region, xI_ret, regA, regOps, runOps, opStep, wantedA, opA, evo, evos, calleeA, lk, nif_eq, putE, paramsE, valS, val2, keepE, restrict, finA, resA, binA, binInt, ofConst, ofConst1, loadA, TK.isAgg, asVar, unA, builtinA, lenOpA, lenA, indexAddrA, evPairs, storeA, AV.cellsOf, pairsOf, xI_nil, binBool, gcE, evOpt, runTr, pairsOk, pairOk, sameVal, AV.eqv, lastOf, lstAt, eqvs, boundA, indexA, regF, twoOf, prsOf, memI, runTrF, selF, runTr2, freshOp, scals, AV.scal, xI_block, xI_loopH, xI_condM, xI_exitM, xI_skip, xI_blk, exitA, List.getElem?_cons_zero, List.getElem?_cons_succ, List.getElem?_toArray, List.getElem?_nil, ileb_t, ileb_f, ieqb_t, ieqb_f, inB_t, wrapA_id, lp_read, ieqb_self, Nat.blt_eq, cond_true, cond_false, ty2, ty4, ty22, eK34_0_0, eK34_1_2, eK34_1_1, eK34_1_0, hrd, s1, he]
    · rw [if_neg he]
      refine ⟨σ, ?_, hr, rfl, fun _ _ => rfl⟩
      rw [fi34, xl34_1]
      simp only [B34_1, b34, Try.f34, Option.getD, fstC, sndC, bodyC, thnC, elsC]
      simp (maxSteps := 1000000) (disch := omega) [xI_seq, xI_region, xI_ret, regA, regOps, runOps, opStep, wantedA, opA, evo, evos, calleeA, lk, nif_eq, putE, paramsE, valS, val2, keepE, restrict, finA, resA, binA, binInt, ofConst, ofConst1, loadA, TK.isAgg, asVar, unA, builtinA, lenOpA, lenA, indexAddrA, evPairs, storeA, AV.cellsOf, pairsOf, xI_nil, binBool, gcE, evOpt, runTr, pairsOk, pairOk, sameVal, AV.eqv, lastOf, lstAt, eqvs, boundA, indexA, regF, twoOf, prsOf, memI, runTrF, selF, runTr2, freshOp, scals, AV.scal, xI_block, xI_loopH, xI_condM, xI_exitM, xI_skip, xI_blk, exitA, List.getElem?_cons_zero, List.getElem?_cons_succ, List.getElem?_toArray, List.getElem?_nil, ileb_t, ileb_f, ieqb_t, ieqb_f, inB_t, wrapA_id, lp_read, ieqb_self, Nat.blt_eq, cond_true, cond_false, ty2, ty4, ty22, eK34_0_0, eK34_1_2, eK34_1_1, eK34_1_0, hrd]
set_option maxHeartbeats 4000000 in
theorem l34 (n : Nat) (hn : n ≤ 5) (hn1 : 1 ≤ n) : ∀ (m : Nat) (c out : List Int) (σ : St) (bo bc nn : Nat), finC n m c = true → VC n c → nn = fac n → out.length = fac n → (∀ r, 0 ≤ at0 out r ∧ at0 out r + m ≤ 10000) → bo ≠ bc → Row σ bo out → Row σ bc c →
    ∃ σ', exI TT (FI.of Try.f34 (TT.an 34)) K34_0 [(0, .int .i64 n), (4, .sl bo 0 nn nn), (5, .sl bc 0 n n)] σ = some (.tup [.sl bo 0 nn nn, .bool true], σ') ∧ Row σ' bo (ncG n m c out) := by
  intro m
  induction m with
  | zero => intro c out σ bo bc nn hf; cases hf
  | succ m ih =>
    intro c out σ bo bc nn hf hc hnn ho hb hbb hr hr2
    obtain ⟨b1, σ1, c1, r1, o1, e1⟩ := FnS.row (s77 c n hc.1.symm (by omega) hc.2) (σ := σ) (args := [.sl bc 0 n n]) (mapO_cons (hr2.frz hc.1.symm (Nat.le_refl _)) rfl)
    have hnl : (naive c 0 (iotaF 0 n)).length = n := by rw [naive_length, iotaF_length]
    rw [hnl] at c1
    have c2 := v80 (naive c 0 (iotaF 0 n)) n hnl.symm (by omega) σ1 [.sl b1 0 n n] (mapO_cons (r1.frz hnl.symm (Nat.le_refl _)) rfl)
    have hrk := rankG_lt (naive c 0 (iotaF 0 n)) n 0
    have hbu : bump n c out = out.set (rankG (naive c 0 (iotaF 0 n)) n 0) (at0 out (rankG (naive c 0 (iotaF 0 n)) n 0) + 1) := rfl
    generalize rankG (naive c 0 (iotaF 0 n)) n 0 = rk at *
    have hbr := hb rk
    have r1o := hr.old o1
    have r1c := hr2.old o1
    have g1 := row_rd (i := rk) r1o (by omega)
    obtain ⟨σ2, s2, r2, n2, o2⟩ := store_row (i := rk) (x := at0 out rk + 1) r1o (by omega)
    rw [← hbu] at r2
    have r2c := r1c.keep (Nat.le_of_eq n2.symm) (o2 bc (fun e => hbb e.symm))
    obtain ⟨σ3, h3, r3, u3⟩ := d34 n hn hn1 (.sl bo 0 nn nn) bc n c σ2 hc (Nat.le_refl _) r2c
    have r3o := r2.but hbb u3
    obtain ⟨v1, v2, v3⟩ := carry_spec hn1 n c hc (Nat.le_refl _)
    rw [finC] at hf
    rw [ncG]
    have hnb : ∀ r, 0 ≤ at0 (bump n c out) r ∧ at0 (bump n c out) r + m ≤ 10000 := fun r => by
      rw [hbu, at0_set _ _ _ _ (by omega)]
      have := hb r
      split <;> omega
    cases hj : (carry n n c).2 with
    | zero =>
      have hN : nxtC n c = none := by unfold nxtC; rw [hj]
      rw [hN]
      refine ⟨σ3, ?_, r3o⟩
      rw [hj] at h3
      rw [fi34] at h3 ⊢
      rw [xl34_0]
      simp only [B34_0, b34, Try.f34, Option.getD, fstC, sndC, bodyC, thnC, elsC]
      simp (maxSteps := 1000000) (disch := omega) [xI_seq, xI_region, xI_ret, regA, regOps, runOps, opStep, wantedA, opA, evo, evos, calleeA, lk, nif_eq, putE, paramsE, valS, val2, keepE, restrict, finA, resA, binA, binInt, ofConst, ofConst1, loadA, TK.isAgg, asVar, unA, builtinA, lenOpA, lenA, indexAddrA, evPairs, storeA, AV.cellsOf, pairsOf, xI_nil, binBool, gcE, evOpt, runTr, pairsOk, pairOk, sameVal, AV.eqv, lastOf, lstAt, eqvs, boundA, indexA, regF, twoOf, prsOf, memI, runTrF, selF, runTr2, freshOp, scals, AV.scal, xI_block, xI_loopH, xI_condM, xI_exitM, xI_skip, xI_blk, exitA, List.getElem?_cons_zero, List.getElem?_cons_succ, List.getElem?_toArray, List.getElem?_nil, ileb_t, ileb_f, ieqb_t, ieqb_f, inB_t, wrapA_id, lp_read, ieqb_self, Nat.blt_eq, cond_true, cond_false, ty2, ty4, ty22, eK34_0_0, eK34_1_2, eK34_1_1, eK34_1_0, c1, c2, g1, s2]
      refine h3.trans ?_
      simp only [R34_1_2, b34, Try.f34, Option.getD, fstC, sndC, bodyC, thnC, elsC]
      simp (maxSteps := 1000000) (disch := omega) [xI_seq, xI_region, xI_ret, regA, regOps, runOps, opStep, wantedA, opA, evo, evos, calleeA, lk, nif_eq, putE, paramsE, valS, val2, keepE, restrict, finA, resA, binA, binInt, ofConst, ofConst1, loadA, TK.isAgg, asVar, unA, builtinA, lenOpA, lenA, indexAddrA, evPairs, storeA, AV.cellsOf, pairsOf, xI_nil, binBool, gcE, evOpt, runTr, pairsOk, pairOk, sameVal, AV.eqv, lastOf, lstAt, eqvs, boundA, indexA, regF, twoOf, prsOf, memI, runTrF, selF, runTr2, freshOp, scals, AV.scal, xI_block, xI_loopH, xI_condM, xI_exitM, xI_skip, xI_blk, exitA, List.getElem?_cons_zero, List.getElem?_cons_succ, List.getElem?_toArray, List.getElem?_nil, ileb_t, ileb_f, ieqb_t, ieqb_f, inB_t, wrapA_id, lp_read, ieqb_self, Nat.blt_eq, cond_true, cond_false, ty2, ty4, ty22, eK34_0_0, eK34_1_2, eK34_1_1, eK34_1_0]
    | succ j =>
      have hN : nxtC n c = some ((carry n n c).1.set j (at0 (carry n n c).1 j + 1)) := by unfold nxtC; rw [hj]
      have hvn := nxtC_valid hn1 hc hN
      rw [hN] at hf ⊢
      have hjn : j < n := by omega
      have hvj := v1.2 (at0 (carry n n c).1 j) (at0_mem (by rw [v1.1]; omega))
      have g3 := row_rd (i := j) r3 (by rw [v1.1]; omega)
      obtain ⟨σ4, s4, r4, n4, o4⟩ := store_row (i := j) (x := at0 (carry n n c).1 j + 1) r3 (by rw [v1.1]; omega)
      have r4o := r3o.keep (Nat.le_of_eq n4.symm) (o4 bo hbb)
      obtain ⟨σ', k1, k2⟩ := ih _ (bump n c out) σ4 bo bc nn hf hvn hnn (by rw [bump_length]; exact ho) hnb hbb r4o r4
      refine ⟨σ', ?_, k2⟩
      rw [← k1]
      rw [hj] at h3
      have hcast : ((j + 1 : Nat) : Int) - 1 = (j : Int) := by omega
      rw [hcast] at h3
      generalize carry n n c = cc at *
      rw [fi34] at h3 ⊢
      rw [xl34_0]
      simp only [B34_0, b34, Try.f34, Option.getD, fstC, sndC, bodyC, thnC, elsC]
      simp (maxSteps := 1000000) (disch := omega) [xI_seq, xI_region, xI_ret, regA, regOps, runOps, opStep, wantedA, opA, evo, evos, calleeA, lk, nif_eq, putE, paramsE, valS, val2, keepE, restrict, finA, resA, binA, binInt, ofConst, ofConst1, loadA, TK.isAgg, asVar, unA, builtinA, lenOpA, lenA, indexAddrA, evPairs, storeA, AV.cellsOf, pairsOf, xI_nil, binBool, gcE, evOpt, runTr, pairsOk, pairOk, sameVal, AV.eqv, lastOf, lstAt, eqvs, boundA, indexA, regF, twoOf, prsOf, memI, runTrF, selF, runTr2, freshOp, scals, AV.scal, xI_block, xI_loopH, xI_condM, xI_exitM, xI_skip, xI_blk, exitA, List.getElem?_cons_zero, List.getElem?_cons_succ, List.getElem?_toArray, List.getElem?_nil, ileb_t, ileb_f, ieqb_t, ieqb_f, inB_t, wrapA_id, lp_read, ieqb_self, Nat.blt_eq, cond_true, cond_false, ty2, ty4, ty22, eK34_0_0, eK34_1_2, eK34_1_1, eK34_1_0, c1, c2, g1, s2]
      refine h3.trans ?_
      simp only [R34_1_2, b34, Try.f34, Option.getD, fstC, sndC, bodyC, thnC, elsC]
      simp (maxSteps := 1000000) (disch := omega) [xI_seq, xI_region, xI_ret, regA, regOps, runOps, opStep, wantedA, opA, evo, evos, calleeA, lk, nif_eq, putE, paramsE, valS, val2, keepE, restrict, finA, resA, binA, binInt, ofConst, ofConst1, loadA, TK.isAgg, asVar, unA, builtinA, lenOpA, lenA, indexAddrA, evPairs, storeA, AV.cellsOf, pairsOf, xI_nil, binBool, gcE, evOpt, runTr, pairsOk, pairOk, sameVal, AV.eqv, lastOf, lstAt, eqvs, boundA, indexA, regF, twoOf, prsOf, memI, runTrF, selF, runTr2, freshOp, scals, AV.scal, xI_block, xI_loopH, xI_condM, xI_exitM, xI_skip, xI_blk, exitA, List.getElem?_cons_zero, List.getElem?_cons_succ, List.getElem?_toArray, List.getElem?_nil, ileb_t, ileb_f, ieqb_t, ieqb_f, inB_t, wrapA_id, lp_read, ieqb_self, Nat.blt_eq, cond_true, cond_false, ty2, ty4, ty22, eK34_0_0, eK34_1_2, eK34_1_1, eK34_1_0, g3, s4]

set_option maxHeartbeats 2000000 in
theorem o35 (n : Int) : FnO TT 35 [.int .i64 n] (ncR n) := by
  have e1 := fun σ => c69 n 1 5 σ
  unfold ncR
  cases ho : inR n 1 5 with
  | false =>
    rw [ho] at e1
    rw [if_neg (by simp)]
    refine FnO.mkN fn35 rfl md35 ⟨⟨[], 0⟩, ?_⟩
    rw [fi35]
    simp (maxSteps := 1000000) (disch := omega) [xI_seq, xI_region, xI_ret, regA, regOps, runOps, opStep, wantedA, opA, evo, evos, calleeA, lk, nif_eq, putE, paramsE, valS, val2, keepE, restrict, finA, resA, binA, binInt, ofConst, ofConst1, loadA, TK.isAgg, asVar, unA, builtinA, lenOpA, lenA, indexAddrA, evPairs, storeA, AV.cellsOf, pairsOf, xI_nil, binBool, gcE, evOpt, runTr, pairsOk, pairOk, sameVal, AV.eqv, lastOf, lstAt, eqvs, boundA, indexA, regF, twoOf, prsOf, memI, runTrF, selF, runTr2, freshOp, scals, AV.scal, xI_block, xI_loopH, xI_condM, xI_exitM, xI_skip, xI_blk, exitA, List.getElem?_cons_zero, List.getElem?_cons_succ, List.getElem?_toArray, List.getElem?_nil, ileb_t, ileb_f, ieqb_t, ieqb_f, inB_t, wrapA_id, lp_read, ieqb_self, Nat.blt_eq, cond_true, cond_false, ty2, ty4, ty22, eK35_0_0, eK35_1_2, eK35_1_1, eK35_1_0, e1]
  | true =>
    rw [ho] at e1
    rw [if_pos rfl]
    have hr := inR_iff.1 ho
    obtain ⟨k, rfl⟩ : ∃ k : Nat, n = k := ⟨n.toNat, by omega⟩
    rw [Int.toNat_natCast]
    have e2 := fun σ => c74 k (by omega) σ
    have hfp := fac_le (n := k) (by omega)
    have e3 := fun σ => mk22 σ (fac k) (by omega)
    have e4 := fun σ => mk22 σ k (by omega)
    obtain ⟨σ', h1, o, h2, _⟩ := l35 k (by omega) (by omega) 3126 (List.replicate k 0) (List.replicate (fac k) 0) (((⟨[], 0⟩ : St).push ⟨ints (List.replicate (fac k) 0), 1, false⟩).push ⟨ints (List.replicate k 0), 1, false⟩) 0 1 (fac k) (fin_all (by omega) (by omega)) ⟨by simp, fun x hx => by
      have := List.eq_of_mem_replicate hx; omega⟩ rfl (by simp) (fun r => by
      have : at0 (List.replicate (fac k) 0) r = 0 := by
        unfold at0
        rw [List.getD_eq_getElem?_getD, List.getElem?_replicate]
        split <;> rfl
      omega) (by omega) (Row.push.pushed) Row.push
    refine FnO.mkS fn35 rfl md35 ⟨σ', 0, o, ?_, h2⟩
    rw [ncG_length, List.length_replicate, ← h1]
    generalize fac k = fk at *
    rw [fi35]
    simp (maxSteps := 1000000) (disch := omega) [xI_seq, xI_region, xI_ret, regA, regOps, runOps, opStep, wantedA, opA, evo, evos, calleeA, lk, nif_eq, putE, paramsE, valS, val2, keepE, restrict, finA, resA, binA, binInt, ofConst, ofConst1, loadA, TK.isAgg, asVar, unA, builtinA, lenOpA, lenA, indexAddrA, evPairs, storeA, AV.cellsOf, pairsOf, xI_nil, binBool, gcE, evOpt, runTr, pairsOk, pairOk, sameVal, AV.eqv, lastOf, lstAt, eqvs, boundA, indexA, regF, twoOf, prsOf, memI, runTrF, selF, runTr2, freshOp, scals, AV.scal, xI_block, xI_loopH, xI_condM, xI_exitM, xI_skip, xI_blk, exitA, List.getElem?_cons_zero, List.getElem?_cons_succ, List.getElem?_toArray, List.getElem?_nil, ileb_t, ileb_f, ieqb_t, ieqb_f, inB_t, wrapA_id, lp_read, ieqb_self, Nat.blt_eq, cond_true, cond_false, ty2, ty4, ty22, eK35_0_0, eK35_1_2, eK35_1_1, eK35_1_0, e1, e2, e3, e4]
    rfl

set_option maxHeartbeats 2000000 in
theorem o34 (n : Int) : FnO TT 34 [.int .i64 n] (ncR n) := by
  have e1 := fun σ => c66 n 1 5 σ
  unfold ncR
  cases ho : inR n 1 5 with
  | false =>
    rw [ho] at e1
    rw [if_neg (by simp)]
    refine FnO.mkN fn34 rfl md34 ⟨⟨[], 0⟩, ?_⟩
    rw [fi34]
    simp (maxSteps := 1000000) (disch := omega) [xI_seq, xI_region, xI_ret, regA, regOps, runOps, opStep, wantedA, opA, evo, evos, calleeA, lk, nif_eq, putE, paramsE, valS, val2, keepE, restrict, finA, resA, binA, binInt, ofConst, ofConst1, loadA, TK.isAgg, asVar, unA, builtinA, lenOpA, lenA, indexAddrA, evPairs, storeA, AV.cellsOf, pairsOf, xI_nil, binBool, gcE, evOpt, runTr, pairsOk, pairOk, sameVal, AV.eqv, lastOf, lstAt, eqvs, boundA, indexA, regF, twoOf, prsOf, memI, runTrF, selF, runTr2, freshOp, scals, AV.scal, xI_block, xI_loopH, xI_condM, xI_exitM, xI_skip, xI_blk, exitA, List.getElem?_cons_zero, List.getElem?_cons_succ, List.getElem?_toArray, List.getElem?_nil, ileb_t, ileb_f, ieqb_t, ieqb_f, inB_t, wrapA_id, lp_read, ieqb_self, Nat.blt_eq, cond_true, cond_false, ty2, ty4, ty22, eK34_0_0, eK34_1_2, eK34_1_1, eK34_1_0, e1]
  | true =>
    rw [ho] at e1
    rw [if_pos rfl]
    have hr := inR_iff.1 ho
    obtain ⟨k, rfl⟩ : ∃ k : Nat, n = k := ⟨n.toNat, by omega⟩
    rw [Int.toNat_natCast]
    have e2 := fun σ => c72 k (by omega) σ
    have hfp := fac_le (n := k) (by omega)
    have e3 := fun σ => mk22 σ (fac k) (by omega)
    have e4 := fun σ => mk22 σ k (by omega)
    obtain ⟨σ', h1, o, h2, _⟩ := l34 k (by omega) (by omega) 3126 (List.replicate k 0) (List.replicate (fac k) 0) (((⟨[], 0⟩ : St).push ⟨ints (List.replicate (fac k) 0), 1, false⟩).push ⟨ints (List.replicate k 0), 1, false⟩) 0 1 (fac k) (fin_all (by omega) (by omega)) ⟨by simp, fun x hx => by
      have := List.eq_of_mem_replicate hx; omega⟩ rfl (by simp) (fun r => by
      have : at0 (List.replicate (fac k) 0) r = 0 := by
        unfold at0
        rw [List.getD_eq_getElem?_getD, List.getElem?_replicate]
        split <;> rfl
      omega) (by omega) (Row.push.pushed) Row.push
    refine FnO.mkS fn34 rfl md34 ⟨σ', 0, o, ?_, h2⟩
    rw [ncG_length, List.length_replicate, ← h1]
    generalize fac k = fk at *
    rw [fi34]
    simp (maxSteps := 1000000) (disch := omega) [xI_seq, xI_region, xI_ret, regA, regOps, runOps, opStep, wantedA, opA, evo, evos, calleeA, lk, nif_eq, putE, paramsE, valS, val2, keepE, restrict, finA, resA, binA, binInt, ofConst, ofConst1, loadA, TK.isAgg, asVar, unA, builtinA, lenOpA, lenA, indexAddrA, evPairs, storeA, AV.cellsOf, pairsOf, xI_nil, binBool, gcE, evOpt, runTr, pairsOk, pairOk, sameVal, AV.eqv, lastOf, lstAt, eqvs, boundA, indexA, regF, twoOf, prsOf, memI, runTrF, selF, runTr2, freshOp, scals, AV.scal, xI_block, xI_loopH, xI_condM, xI_exitM, xI_skip, xI_blk, exitA, List.getElem?_cons_zero, List.getElem?_cons_succ, List.getElem?_toArray, List.getElem?_nil, ileb_t, ileb_f, ieqb_t, ieqb_f, inB_t, wrapA_id, lp_read, ieqb_self, Nat.blt_eq, cond_true, cond_false, ty2, ty4, ty22, eK34_0_0, eK34_1_2, eK34_1_1, eK34_1_0, e1, e2, e3, e4]
    rfl

set_option maxHeartbeats 2000000 in
theorem w8 (n : Int) : FnV TT 8 [.int .i64 n] (.bool true) := by
  refine FnV.mk fn8 rfl md8 ?_ (fun _ => rfl) rfl
  rw [fi8]
  have hout : ∀ out, ncR n = some out → out.length ≤ 120 := fun _ h => (ncR_length h).2
  cases hx : ncR n with
  | none =>
    have hS := o34 n
    have hI := o35 n
    rw [hx] at hS hI
    have c1 := FnO.nil hS (σ := (⟨[], 0⟩ : St)) (args := [.int .i64 n]) (rfl)
    have c2 := FnO.nil hI (σ := (⟨[], 0⟩ : St)) (args := [.int .i64 n]) (rfl)
    have c3 := v23n (⟨[], 0⟩ : St) [.nilS, .nilS] rfl
    have c4 := m24n (⟨[], 0⟩ : St) 1
    have c5 := v25n 1 (⟨[], 0⟩ : St) [.nilS, .int .i64 (1 : Nat)] rfl
    have c6 := FnO.nil hI (σ := (⟨[], 0⟩ : St)) (args := [.int .i64 n]) (rfl)
    have c7 := v23n (⟨[], 0⟩ : St) [.nilS, .nilS] rfl
    have c8 := v25n 1 (⟨[], 0⟩ : St) [.nilS, .int .i64 (1 : Nat)] rfl
    refine ⟨(⟨[], 0⟩ : St), ?_⟩
    clear hS hI
    simp only [show ((1 : Nat) : Int) = 1 from rfl, Int.natCast_add] at c1 c2 c3 c4 c5 c6 c7 c8
    simp [xI_seq, xI_region, xI_ret, regA, regOps, runOps, opStep, wantedA, opA, evo, evos, calleeA, lk, nif_eq, putE, paramsE, valS, val2, keepE, restrict, finA, resA, binA, binInt, ofConst, ofConst1, loadA, TK.isAgg, asVar, unA, builtinA, lenOpA, lenA, ileb_cast, ileb_eq, ieqb_dec, indexAddrA, inB_dec, evPairs, storeA, AV.cellsOf, pairsOf, xI_nil, binBool, gcE, evOpt, xI_block, xI_loopH, xI_condM, xI_exitM, xI_skip, xI_blk, exitA, ty3, ty4, c1, c2, c3, c4, c5, c6, c7, c8]
  | some out =>
    have hS := o34 n
    have hI := o35 n
    rw [hx] at hS hI
    have hlo : out.length < 1000000 := by have := hout out hx; omega
    obtain ⟨b1, σ1, c1, r1, o1, e1⟩ := FnO.row hS (σ := (⟨[], 0⟩ : St)) (args := [.int .i64 n]) (rfl)
    have := r1.lt
    obtain ⟨b2, σ2, c2, r2, o2, e2⟩ := FnO.row hI (σ := σ1) (args := [.int .i64 n]) (rfl)
    replace r1 := r1.old o2
    have c3 := v23 out out out.length out.length rfl rfl (by omega) σ2 [.sl b2 0 out.length out.length, .sl b1 0 out.length out.length] (mapO_cons (r2.frz rfl (Nat.le_refl _)) (mapO_cons (r1.frz rfl (Nat.le_refl _)) rfl))
    simp only [decide_true] at c3
    obtain ⟨σ4, c4, q4, u4⟩ := m24 σ2 b2 out.length 1 out rfl (by omega) (by omega) r2
    replace r1 := r1.but (by omega) u4
    have z4 := u4.1
    have c5 := v25 out.length 1 (by omega) (by omega) σ4 [.sl b2 0 out.length out.length, .int .i64 (1 : Nat)] (mapO_cons (q4.frz (iotaF_length _ _).symm (Nat.le_refl _)) rfl)
    have := r1.lt
    have := q4.lt
    obtain ⟨b6, σ6, c6, r6, o6, e6⟩ := FnO.row hI (σ := σ4) (args := [.int .i64 n]) (rfl)
    replace r1 := r1.old o6
    replace q4 := q4.old o6
    have c7 := v23 out out out.length out.length rfl rfl (by omega) σ6 [.sl b6 0 out.length out.length, .sl b1 0 out.length out.length] (mapO_cons (r6.frz rfl (Nat.le_refl _)) (mapO_cons (r1.frz rfl (Nat.le_refl _)) rfl))
    simp only [decide_true] at c7
    have c8 := v25 out.length 1 (by omega) (by omega) σ6 [.sl b2 0 out.length out.length, .int .i64 (1 : Nat)] (mapO_cons (q4.frz (iotaF_length _ _).symm (Nat.le_refl _)) rfl)
    refine ⟨σ6, ?_⟩
    clear hS hI
    simp only [show ((1 : Nat) : Int) = 1 from rfl, Int.natCast_add] at c1 c2 c3 c4 c5 c6 c7 c8
    have hz2 : (0 : Int) ≤ 1 + (out.length : Int) := by omega
    simp [xI_seq, xI_region, xI_ret, regA, regOps, runOps, opStep, wantedA, opA, evo, evos, calleeA, lk, nif_eq, putE, paramsE, valS, val2, keepE, restrict, finA, resA, binA, binInt, ofConst, ofConst1, loadA, TK.isAgg, asVar, unA, builtinA, lenOpA, lenA, ileb_cast, ileb_eq, ieqb_dec, indexAddrA, inB_dec, evPairs, storeA, AV.cellsOf, pairsOf, xI_nil, binBool, gcE, evOpt, xI_block, xI_loopH, xI_condM, xI_exitM, xI_skip, xI_blk, exitA, ty3, ty4, c1, c2, c3, c4, c5, c6, c7, c8, hz2]
end Go.Proofs.Ytaniaeefijgaiaa
