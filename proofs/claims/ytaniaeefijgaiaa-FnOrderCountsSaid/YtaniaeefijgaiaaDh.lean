/- Contracts and law: choices of orders. Nothing is claimed here; no condition. -/
import Derived.Test.YtaniaeefijgaiaaDg
namespace Go.Proofs.Ytaniaeefijgaiaa
open Go Go.Abs
set_option linter.unusedSimpArgs false
set_option linter.unusedVariables false
/-! ### Choices: plain law -/
def cho (l : List Int) : Nat → List Int → List Int → List Int
  | 0, _, out => out
  | m + 1, now, out => cho l m (swp now (m + 1) (ixF (at0 l (m + 1)) now 0).toNat) (out ++ [ixF (at0 l (m + 1)) now 0])
theorem cho_length (l : List Int) : ∀ (m : Nat) (now out : List Int), (cho l m now out).length = out.length + m
  | 0, _, _ => rfl
  | m + 1, now, out => by rw [cho, cho_length l m]; simp; omega
theorem swp_at0 (l : List Int) (i j : Nat) : swp l i j = (l.set i (at0 l j)).set j (at0 l i) := rfl
theorem ixF_ge (x : Int) : ∀ (l : List Int) (k : Nat), x ∈ l → ∃ j : Nat, ixF x l k = (k + j : Nat) ∧ j < l.length
  | [], _, h => by simp at h
  | y :: r, k, h => by
    simp only [ixF]
    by_cases hxy : x = y
    · exact ⟨0, by rw [if_pos hxy]; simp, by simp⟩
    · rw [if_neg hxy]
      obtain ⟨j, h1, h2⟩ := ixF_ge x r (k + 1) ((List.mem_cons.1 h).resolve_left hxy)
      exact ⟨j + 1, by rw [h1]; congr 1; omega, by simpa using h2⟩
theorem ixF_eq {x : Int} {l : List Int} (h : x ∈ l) : ∃ j : Nat, ixF x l 0 = (j : Int) ∧ j < l.length := by
  obtain ⟨j, h1, h2⟩ := ixF_ge x l 0 h
  exact ⟨j, by simpa using h1, h2⟩
/-- Choices of an order. -/
def choR (l : List Int) : Option (List Int) := if isO l = true then some (cho l (l.length - 1) (iotaF 0 l.length) []) else none
theorem isO_len {l : List Int} (h : isO l = true) : 1 ≤ l.length ∧ l.length ≤ 12 := by
  unfold isO at h
  simp only [Bool.and_eq_true] at h
  have := inR_iff.1 h.1; omega
theorem isO_in {l : List Int} (h : isO l = true) : ∀ x ∈ l, 0 ≤ x ∧ x < l.length := fun x hx => by
  unfold isO at h
  simp only [Bool.and_eq_true] at h
  have := allR_spec h.2.1 x hx; omega
theorem mem_iota {n : Nat} {x : Int} (h : 0 ≤ x ∧ x < n) : x ∈ iotaF 0 n := by
  obtain ⟨k, rfl⟩ : ∃ k : Nat, x = k := ⟨x.toNat, by omega⟩
  exact List.mem_of_getElem? (by rw [iotaF_get n 0 k (by omega)]; simp)
/-- What a store of one number of a row does to another row. -/
theorem row_keep {σ σ' : St} {b b2 : Nat} {l : List Int} (h : Row σ b2 l) (hn : σ.n ≤ σ'.n) (hk : σ'.get b2 = σ.get b2) : Row σ' b2 l := h.keep hn hk

noncomputable def b49 : Code := Try.f49.body.getD .skip
noncomputable def B49_0 : Code := (bodyC (bodyC (sndC (fstC (sndC (sndC (sndC b49)))))))
noncomputable def K49_0 : List It := .lp B49_0 :: .blk 0 :: .code (sndC (sndC (sndC (sndC b49)))) :: []
theorem xl49_0 {fi : FI} {env : Env} {σ : St} : exI TT fi K49_0 env σ = exI TT fi (.code B49_0 :: K49_0) env σ := by unfold K49_0; exact xI_lp
noncomputable def R49_0_0 : List It := .code (sndC (sndC (sndC (sndC b49)))) :: []
theorem eK49_0_0 : exitA 0 K49_0 = some R49_0_0 := rfl
set_option maxHeartbeats 2000000 in
theorem l49 (l : List Int) (len : Nat) (hlen : len = l.length) (hs : len ≤ 12) (hr : ∀ x ∈ l, 0 ≤ x ∧ x < len) : ∀ (m : Nat) (now out : List Int) (q : Nat) (σ : St) (b b2 : Nat), m < len → now.length = len → (∀ x, 0 ≤ x ∧ x < (len : Int) → x ∈ now) → q = out.length → q ≤ 100 - m → b ≠ b2 → Row σ b now → Row σ b2 out →
    ∃ σ' b' q', exI TT (FI.of Try.f49 (TT.an 49)) K49_0 [(0, .lst len (ints l)), (4, .sl b 0 len len), (5, .sl b2 0 q q), (6, .int .i64 m)] σ = some (.tup [.sl b' 0 q' q', .bool true], σ') ∧ Row σ' b' (cho l m now out) ∧ q' = (cho l m now out).length := by
  intro m
  induction m with
  | zero =>
    intro now out q σ b b2 hm hn hp hq hq2 hbb h1 h2
    refine ⟨σ, b2, q, ?_, h2, hq⟩
    rw [fi49]
    rw [xl49_0]
    simp only [B49_0, b49, Try.f49, Option.getD, fstC, sndC, bodyC, thnC, elsC]
    simp (maxSteps := 1000000) (disch := omega) [xI_seq, xI_region, xI_ret, regA, regOps, runOps, opStep, wantedA, opA, evo, evos, calleeA, lk, nif_eq, putE, paramsE, valS, val2, keepE, restrict, finA, resA, binA, binInt, ofConst, ofConst1, loadA, TK.isAgg, asVar, unA, builtinA, lenOpA, lenA, indexAddrA, evPairs, storeA, AV.cellsOf, pairsOf, xI_nil, binBool, gcE, evOpt, runTr, pairsOk, pairOk, sameVal, AV.eqv, lastOf, lstAt, eqvs, boundA, indexA, regF, twoOf, prsOf, memI, runTrF, selF, runTr2, freshOp, scals, AV.scal, xI_block, xI_loopH, xI_condM, xI_exitM, xI_skip, xI_blk, exitA, List.getElem?_cons_zero, List.getElem?_cons_succ, List.getElem?_toArray, List.getElem?_nil, ileb_t, ileb_f, ieqb_t, ieqb_f, inB_t, wrapA_id, lp_read, ieqb_self, Nat.blt_eq, cond_true, cond_false, ty2, ty3, ty4, ty22, eK49_0_0]
    simp only [R49_0_0, b49, Try.f49, Option.getD, fstC, sndC, bodyC, thnC, elsC]
    simp (maxSteps := 1000000) (disch := omega) [xI_seq, xI_region, xI_ret, regA, regOps, runOps, opStep, wantedA, opA, evo, evos, calleeA, lk, nif_eq, putE, paramsE, valS, val2, keepE, restrict, finA, resA, binA, binInt, ofConst, ofConst1, loadA, TK.isAgg, asVar, unA, builtinA, lenOpA, lenA, indexAddrA, evPairs, storeA, AV.cellsOf, pairsOf, xI_nil, binBool, gcE, evOpt, runTr, pairsOk, pairOk, sameVal, AV.eqv, lastOf, lstAt, eqvs, boundA, indexA, regF, twoOf, prsOf, memI, runTrF, selF, runTr2, freshOp, scals, AV.scal, xI_block, xI_loopH, xI_condM, xI_exitM, xI_skip, xI_blk, exitA, List.getElem?_cons_zero, List.getElem?_cons_succ, List.getElem?_toArray, List.getElem?_nil, ileb_t, ileb_f, ieqb_t, ieqb_f, inB_t, wrapA_id, lp_read, ieqb_self, Nat.blt_eq, cond_true, cond_false, ty2, ty3, ty4, ty22, eK49_0_0]
  | succ m ih =>
    intro now out q σ b b2 hm hn hp hq hq2 hbb h1 h2
    have hx := hr (at0 l (m + 1)) (at0_mem (by omega))
    have hxn := hp _ hx
    obtain ⟨c, hc, hcl⟩ := ixF_eq hxn
    have e1 := v97 now len hn.symm (by omega) (at0 l (m + 1)) σ [.sl b 0 len len, .int .i64 (at0 l (m + 1))] (mapO_cons (h1.frz hn.symm (Nat.le_refl _)) rfl)
    rw [hc] at e1
    have g1 := row_rd (i := c) h1 (by omega)
    have g2 := row_rd (i := m + 1) h1 (by omega)
    obtain ⟨σ1, s1, r1, n1, o1⟩ := store_row (i := m + 1) (x := at0 now c) h1 (by omega)
    obtain ⟨σ2, s2, r2, n2, o2⟩ := store_row (i := c) (x := at0 now (m + 1)) r1 (by simp; omega)
    rw [← swp_at0] at r2
    have h2' : Row σ2 b2 out := h2.keep (by omega) ((o2 b2 hbb.symm).trans (o1 b2 hbb.symm))
    obtain ⟨σ3, ha, r3, n3, k3⟩ := append_row (T := TT) (x := (c : Int)) ty22 ty2 h2' hq (by omega)
    have hlt := r2.lt
    have h1' : Row σ3 b (swp now (m + 1) c) := r2.keep (by omega) (k3 b hbb hlt)
    have hpp : (swp now (m + 1) c).Perm now := swp_perm (by omega) (by omega)
    obtain ⟨σ', b', q', h3, h4, h5⟩ := ih (swp now (m + 1) c) (out ++ [(c : Int)]) (q + 1) σ3 b (σ2.n + 1) (by omega) (by rw [swp_length, hn]) (fun x hx => hpp.mem_iff.2 (hp x hx)) (by simp [hq]) (by omega) (by omega) h1' r3
    refine ⟨σ', b', q', ?_, by rw [cho, hc]; exact h4, by rw [cho, hc]; exact h5⟩
    have t1 : ((m + 1 : Nat) : Int) = (m : Int) + 1 := by omega
    have t2 : ((m : Int) + 1).toNat = m + 1 := by omega
    rw [t1]
    clear ih
    rw [fi49] at h3 ⊢
    rw [xl49_0]
    simp only [B49_0, b49, Try.f49, Option.getD, fstC, sndC, bodyC, thnC, elsC]
    simp (maxSteps := 1000000) (disch := omega) [xI_seq, xI_region, xI_ret, regA, regOps, runOps, opStep, wantedA, opA, evo, evos, calleeA, lk, nif_eq, putE, paramsE, valS, val2, keepE, restrict, finA, resA, binA, binInt, ofConst, ofConst1, loadA, TK.isAgg, asVar, unA, builtinA, lenOpA, lenA, indexAddrA, evPairs, storeA, AV.cellsOf, pairsOf, xI_nil, binBool, gcE, evOpt, runTr, pairsOk, pairOk, sameVal, AV.eqv, lastOf, lstAt, eqvs, boundA, indexA, regF, twoOf, prsOf, memI, runTrF, selF, runTr2, freshOp, scals, AV.scal, xI_block, xI_loopH, xI_condM, xI_exitM, xI_skip, xI_blk, exitA, List.getElem?_cons_zero, List.getElem?_cons_succ, List.getElem?_toArray, List.getElem?_nil, ileb_t, ileb_f, ieqb_t, ieqb_f, inB_t, wrapA_id, lp_read, ieqb_self, Nat.blt_eq, cond_true, cond_false, ty2, ty3, ty4, ty22, eK49_0_0, e1, g1, g2, s1, s2, ha, t2, bs22]
    simpa using h3
theorem o49 (l : List Int) (len : Nat) (hlen : len = l.length) (hs : len < 3000000) : FnO TT 49 [.lst len (ints l)] (choR l) := by
  have e1 := fun σ => v41 l len hlen hs σ [.lst len (ints l)] rfl
  unfold choR
  cases ho : isO l with
  | false =>
    rw [ho] at e1
    rw [if_neg (by simp)]
    refine FnO.mkN fn49 rfl md49 ⟨⟨[], 0⟩, ?_⟩
    rw [fi49]
    simp (maxSteps := 1000000) (disch := omega) [xI_seq, xI_region, xI_ret, regA, regOps, runOps, opStep, wantedA, opA, evo, evos, calleeA, lk, nif_eq, putE, paramsE, valS, val2, keepE, restrict, finA, resA, binA, binInt, ofConst, ofConst1, loadA, TK.isAgg, asVar, unA, builtinA, lenOpA, lenA, indexAddrA, evPairs, storeA, AV.cellsOf, pairsOf, xI_nil, binBool, gcE, evOpt, runTr, pairsOk, pairOk, sameVal, AV.eqv, lastOf, lstAt, eqvs, boundA, indexA, regF, twoOf, prsOf, memI, runTrF, selF, runTr2, freshOp, scals, AV.scal, xI_block, xI_loopH, xI_condM, xI_exitM, xI_skip, xI_blk, exitA, List.getElem?_cons_zero, List.getElem?_cons_succ, List.getElem?_toArray, List.getElem?_nil, ileb_t, ileb_f, ieqb_t, ieqb_f, inB_t, wrapA_id, lp_read, ieqb_self, Nat.blt_eq, cond_true, cond_false, ty2, ty3, ty4, ty22, eK49_0_0, e1]
  | true =>
    rw [ho] at e1
    rw [if_pos rfl]
    have hl := isO_len ho
    have e2 := fun σ => v75 l len σ [.lst len (ints l)] rfl
    obtain ⟨o, e3⟩ := s68 len (by omega) ⟨[], 0⟩ [.int .i64 len] rfl
    rw [iotaF_length] at e3
    obtain ⟨σ', b', q', h1, ⟨o2, h2, _⟩, h3⟩ := l49 l len hlen (by omega) (by rw [hlen]; exact isO_in ho) (len - 1) (iotaF 0 len) [] 0 (((⟨[], 0⟩ : St).push ⟨ints (iotaF 0 len), 1, o⟩).push ⟨ints [], 1, false⟩) 0 1 (by omega) (iotaF_length _ _) (fun x hx => mem_iota hx) rfl (by omega) (by omega) (Row.push.pushed) Row.push
    rw [← hlen]
    refine FnO.mkS fn49 rfl md49 ⟨σ', b', o2, ?_, h2⟩
    rw [← h3, ← h1]
    have t1 : ((len - 1 : Nat) : Int) = (len : Int) - 1 := by omega
    rw [t1, fi49]
    simp (maxSteps := 1000000) (disch := omega) [xI_seq, xI_region, xI_ret, regA, regOps, runOps, opStep, wantedA, opA, evo, evos, calleeA, lk, nif_eq, putE, paramsE, valS, val2, keepE, restrict, finA, resA, binA, binInt, ofConst, ofConst1, loadA, TK.isAgg, asVar, unA, builtinA, lenOpA, lenA, indexAddrA, evPairs, storeA, AV.cellsOf, pairsOf, xI_nil, binBool, gcE, evOpt, runTr, pairsOk, pairOk, sameVal, AV.eqv, lastOf, lstAt, eqvs, boundA, indexA, regF, twoOf, prsOf, memI, runTrF, selF, runTr2, freshOp, scals, AV.scal, xI_block, xI_loopH, xI_condM, xI_exitM, xI_skip, xI_blk, exitA, List.getElem?_cons_zero, List.getElem?_cons_succ, List.getElem?_toArray, List.getElem?_nil, ileb_t, ileb_f, ieqb_t, ieqb_f, inB_t, wrapA_id, lp_read, ieqb_self, Nat.blt_eq, cond_true, cond_false, ty2, ty3, ty4, ty22, eK49_0_0, e1, e2, e3, bn22]
    rfl

noncomputable def b48 : Code := Try.f48.body.getD .skip
noncomputable def B48_0 : Code := (bodyC (bodyC (sndC (fstC (sndC (sndC (sndC (sndC b48))))))))
noncomputable def K48_0 : List It := .lp B48_0 :: .blk 0 :: .code (sndC (sndC (sndC (sndC (sndC b48))))) :: []
theorem xl48_0 {fi : FI} {env : Env} {σ : St} : exI TT fi K48_0 env σ = exI TT fi (.code B48_0 :: K48_0) env σ := by unfold K48_0; exact xI_lp
noncomputable def R48_0_0 : List It := .code (sndC (sndC (sndC (sndC (sndC b48))))) :: []
theorem eK48_0_0 : exitA 0 K48_0 = some R48_0_0 := rfl
noncomputable def B48_1 : Code := (bodyC (bodyC (fstC (sndC (bodyC (fstC (sndC (bodyC (bodyC (sndC (fstC (sndC (sndC (sndC (sndC b48)))))))))))))))
noncomputable def K48_1 : List It := .lp B48_1 :: .blk 2 :: .code (sndC (sndC (bodyC (fstC (sndC (bodyC (bodyC (sndC (fstC (sndC (sndC (sndC (sndC b48))))))))))))) :: .blk 1 :: .code (sndC (sndC (bodyC (bodyC (sndC (fstC (sndC (sndC (sndC (sndC b48)))))))))) :: K48_0
theorem xl48_1 {fi : FI} {env : Env} {σ : St} : exI TT fi K48_1 env σ = exI TT fi (.code B48_1 :: K48_1) env σ := by unfold K48_1; exact xI_lp
noncomputable def R48_1_2 : List It := .code (sndC (sndC (bodyC (fstC (sndC (bodyC (bodyC (sndC (fstC (sndC (sndC (sndC (sndC b48))))))))))))) :: .blk 1 :: .code (sndC (sndC (bodyC (bodyC (sndC (fstC (sndC (sndC (sndC (sndC b48)))))))))) :: K48_0
theorem eK48_1_2 : exitA 2 K48_1 = some R48_1_2 := rfl
noncomputable def R48_1_1 : List It := .code (sndC (sndC (bodyC (bodyC (sndC (fstC (sndC (sndC (sndC (sndC b48)))))))))) :: K48_0
theorem eK48_1_1 : exitA 1 K48_1 = some R48_1_1 := rfl
theorem eK48_1_0 : exitA 0 K48_1 = some R48_0_0 := rfl
set_option maxHeartbeats 2000000 in
theorem d48 (l now : List Int) (len : Nat) (hlen : len = l.length) (hs : len ≤ 12) (hn : now.length = len) (i : Nat) (hi : i < len) (V5 : AV) (σ : St) (b : Nat) (h1 : Row σ b now) : ∀ (suf pre : List Int), now = pre ++ suf → at0 l i ∈ suf →
    exI TT (FI.of Try.f48 (TT.an 48)) K48_1 [(0, .lst len (ints l)), (4, .sl b 0 len len), (5, V5), (6, .int .i64 i), (7, .int .i64 pre.length)] σ = exI TT (FI.of Try.f48 (TT.an 48)) R48_1_2 [(0, .lst len (ints l)), (4, .sl b 0 len len), (5, V5), (6, .int .i64 i), (7, .int .i64 (ixF (at0 l i) suf pre.length)), (30, .bool false)] σ := by
  intro suf
  induction suf with
  | nil => intro pre h h2; simp at h2
  | cons y suf ih =>
    intro pre h h2
    have hll : now.length = pre.length + (suf.length + 1) := by rw [h]; simp
    have hy : at0 now pre.length = y := at0_of (by rw [h]; simp)
    have g1 := row_rd (i := pre.length) h1 (by omega)
    rw [hy] at g1
    by_cases hxy : at0 l i = y
    · rw [ixF, if_pos hxy]
      rw [fi48, xl48_1]
      simp only [B48_1, b48, Try.f48, Option.getD, fstC, sndC, bodyC, thnC, elsC]
      simp (maxSteps := 1000000) (disch := omega) [xI_seq, xI_region, xI_ret, regA, regOps, runOps, opStep, wantedA, opA, evo, evos, calleeA, lk, nif_eq, putE, paramsE, valS, val2, keepE, restrict, finA, resA, binA, binInt, ofConst, ofConst1, loadA, TK.isAgg, asVar, unA, builtinA, lenOpA, lenA, indexAddrA, evPairs, storeA, AV.cellsOf, pairsOf, xI_nil, binBool, gcE, evOpt, runTr, pairsOk, pairOk, sameVal, AV.eqv, lastOf, lstAt, eqvs, boundA, indexA, regF, twoOf, prsOf, memI, runTrF, selF, runTr2, freshOp, scals, AV.scal, xI_block, xI_loopH, xI_condM, xI_exitM, xI_skip, xI_blk, exitA, List.getElem?_cons_zero, List.getElem?_cons_succ, List.getElem?_toArray, List.getElem?_nil, ileb_t, ileb_f, ieqb_t, ieqb_f, inB_t, wrapA_id, lp_read, ieqb_self, Nat.blt_eq, cond_true, cond_false, ty2, ty4, ty22, eK48_0_0, eK48_1_2, eK48_1_1, eK48_1_0, g1, hxy]
    · have h3 := ih (pre ++ [y]) (by simp [h]) ((List.mem_cons.1 h2).resolve_left hxy)
      have hxy2 : ¬ y = at0 l i := fun e => hxy e.symm
      simp only [List.length_append, List.length_singleton] at h3
      rw [ixF, if_neg hxy, ← h3]
      rw [fi48, xl48_1]
      simp only [B48_1, b48, Try.f48, Option.getD, fstC, sndC, bodyC, thnC, elsC]
      simp (maxSteps := 1000000) (disch := omega) [xI_seq, xI_region, xI_ret, regA, regOps, runOps, opStep, wantedA, opA, evo, evos, calleeA, lk, nif_eq, putE, paramsE, valS, val2, keepE, restrict, finA, resA, binA, binInt, ofConst, ofConst1, loadA, TK.isAgg, asVar, unA, builtinA, lenOpA, lenA, indexAddrA, evPairs, storeA, AV.cellsOf, pairsOf, xI_nil, binBool, gcE, evOpt, runTr, pairsOk, pairOk, sameVal, AV.eqv, lastOf, lstAt, eqvs, boundA, indexA, regF, twoOf, prsOf, memI, runTrF, selF, runTr2, freshOp, scals, AV.scal, xI_block, xI_loopH, xI_condM, xI_exitM, xI_skip, xI_blk, exitA, List.getElem?_cons_zero, List.getElem?_cons_succ, List.getElem?_toArray, List.getElem?_nil, ileb_t, ileb_f, ieqb_t, ieqb_f, inB_t, wrapA_id, lp_read, ieqb_self, Nat.blt_eq, cond_true, cond_false, ty2, ty4, ty22, eK48_0_0, eK48_1_2, eK48_1_1, eK48_1_0, g1]
set_option maxHeartbeats 2000000 in
theorem l48 (l : List Int) (len : Nat) (hlen : len = l.length) (hs : len ≤ 12) (hr : ∀ x ∈ l, 0 ≤ x ∧ x < len) : ∀ (m : Nat) (now out : List Int) (q : Nat) (σ : St) (b b2 : Nat), m < len → now.length = len → (∀ x, 0 ≤ x ∧ x < (len : Int) → x ∈ now) → q = out.length → q ≤ 100 - m → b ≠ b2 → Row σ b now → Row σ b2 out →
    ∃ σ' b' q', exI TT (FI.of Try.f48 (TT.an 48)) K48_0 [(0, .lst len (ints l)), (4, .sl b 0 len len), (5, .sl b2 0 q q), (6, .int .i64 m)] σ = some (.tup [.sl b' 0 q' q', .bool true], σ') ∧ Row σ' b' (cho l m now out) ∧ q' = (cho l m now out).length := by
  intro m
  induction m with
  | zero =>
    intro now out q σ b b2 hm hn hp hq hq2 hbb h1 h2
    refine ⟨σ, b2, q, ?_, h2, hq⟩
    rw [fi48]
    rw [xl48_0]
    simp only [B48_0, b48, Try.f48, Option.getD, fstC, sndC, bodyC, thnC, elsC]
    simp (maxSteps := 1000000) (disch := omega) [xI_seq, xI_region, xI_ret, regA, regOps, runOps, opStep, wantedA, opA, evo, evos, calleeA, lk, nif_eq, putE, paramsE, valS, val2, keepE, restrict, finA, resA, binA, binInt, ofConst, ofConst1, loadA, TK.isAgg, asVar, unA, builtinA, lenOpA, lenA, indexAddrA, evPairs, storeA, AV.cellsOf, pairsOf, xI_nil, binBool, gcE, evOpt, runTr, pairsOk, pairOk, sameVal, AV.eqv, lastOf, lstAt, eqvs, boundA, indexA, regF, twoOf, prsOf, memI, runTrF, selF, runTr2, freshOp, scals, AV.scal, xI_block, xI_loopH, xI_condM, xI_exitM, xI_skip, xI_blk, exitA, List.getElem?_cons_zero, List.getElem?_cons_succ, List.getElem?_toArray, List.getElem?_nil, ileb_t, ileb_f, ieqb_t, ieqb_f, inB_t, wrapA_id, lp_read, ieqb_self, Nat.blt_eq, cond_true, cond_false, ty2, ty4, ty22, eK48_0_0, eK48_1_2, eK48_1_1, eK48_1_0]
    simp only [R48_0_0, b48, Try.f48, Option.getD, fstC, sndC, bodyC, thnC, elsC]
    simp (maxSteps := 1000000) (disch := omega) [xI_seq, xI_region, xI_ret, regA, regOps, runOps, opStep, wantedA, opA, evo, evos, calleeA, lk, nif_eq, putE, paramsE, valS, val2, keepE, restrict, finA, resA, binA, binInt, ofConst, ofConst1, loadA, TK.isAgg, asVar, unA, builtinA, lenOpA, lenA, indexAddrA, evPairs, storeA, AV.cellsOf, pairsOf, xI_nil, binBool, gcE, evOpt, runTr, pairsOk, pairOk, sameVal, AV.eqv, lastOf, lstAt, eqvs, boundA, indexA, regF, twoOf, prsOf, memI, runTrF, selF, runTr2, freshOp, scals, AV.scal, xI_block, xI_loopH, xI_condM, xI_exitM, xI_skip, xI_blk, exitA, List.getElem?_cons_zero, List.getElem?_cons_succ, List.getElem?_toArray, List.getElem?_nil, ileb_t, ileb_f, ieqb_t, ieqb_f, inB_t, wrapA_id, lp_read, ieqb_self, Nat.blt_eq, cond_true, cond_false, ty2, ty4, ty22, eK48_0_0, eK48_1_2, eK48_1_1, eK48_1_0]
  | succ m ih =>
    intro now out q σ b b2 hm hn hp hq hq2 hbb h1 h2
    have hx := hr (at0 l (m + 1)) (at0_mem (by omega))
    have hxn := hp _ hx
    obtain ⟨c, hc, hcl⟩ := ixF_eq hxn
    have e1 := d48 l now len hlen hs hn (m + 1) (by omega) (.sl b2 0 q q) σ b h1 now [] rfl hxn
    simp only [List.length_nil, hc, show ((0 : Nat) : Int) = 0 from rfl] at e1
    obtain ⟨σ3, ha, r3, n3, k3⟩ := append_row (T := TT) (x := (c : Int)) ty22 ty2 h2 hq (by omega)
    have hlt := h1.lt
    have h1' : Row σ3 b now := h1.keep (by omega) (k3 b hbb hlt)
    obtain ⟨σ4, e2, r4, n4, o4⟩ := m96 σ3 b len (m + 1) c now hn.symm (by omega) (by omega) h1'
    have r3' : Row σ4 (σ.n + 1) (out ++ [(c : Int)]) := r3.keep (by omega) (o4 _ (by omega))
    have hpp : (swp now (m + 1) c).Perm now := swp_perm (by omega) (by omega)
    obtain ⟨σ', b', q', h3, h4, h5⟩ := ih (swp now (m + 1) c) (out ++ [(c : Int)]) (q + 1) σ4 b (σ.n + 1) (by omega) (by rw [swp_length, hn]) (fun x hx => hpp.mem_iff.2 (hp x hx)) (by simp [hq]) (by omega) (by omega) r4 r3'
    refine ⟨σ', b', q', ?_, by rw [cho, hc]; exact h4, by rw [cho, hc]; exact h5⟩
    have t1 : ((m + 1 : Nat) : Int) = (m : Int) + 1 := by omega
    have t2 : ((m : Int) + 1).toNat = m + 1 := by omega
    rw [t1] at e1 e2 ⊢
    clear ih
    rw [fi48] at e1 h3 ⊢
    rw [xl48_0] at ⊢
    simp only [B48_0, b48, Try.f48, Option.getD, fstC, sndC, bodyC, thnC, elsC]
    simp (maxSteps := 1000000) (disch := omega) [xI_seq, xI_region, xI_ret, regA, regOps, runOps, opStep, wantedA, opA, evo, evos, calleeA, lk, nif_eq, putE, paramsE, valS, val2, keepE, restrict, finA, resA, binA, binInt, ofConst, ofConst1, loadA, TK.isAgg, asVar, unA, builtinA, lenOpA, lenA, indexAddrA, evPairs, storeA, AV.cellsOf, pairsOf, xI_nil, binBool, gcE, evOpt, runTr, pairsOk, pairOk, sameVal, AV.eqv, lastOf, lstAt, eqvs, boundA, indexA, regF, twoOf, prsOf, memI, runTrF, selF, runTr2, freshOp, scals, AV.scal, xI_block, xI_loopH, xI_condM, xI_exitM, xI_skip, xI_blk, exitA, List.getElem?_cons_zero, List.getElem?_cons_succ, List.getElem?_toArray, List.getElem?_nil, ileb_t, ileb_f, ieqb_t, ieqb_f, inB_t, wrapA_id, lp_read, ieqb_self, Nat.blt_eq, cond_true, cond_false, ty2, ty4, ty22, eK48_0_0, eK48_1_2, eK48_1_1, eK48_1_0]
    refine e1.trans ?_
    simp only [R48_1_2, b48, Try.f48, Option.getD, fstC, sndC, bodyC, thnC, elsC]
    simp (maxSteps := 1000000) (disch := omega) [xI_seq, xI_region, xI_ret, regA, regOps, runOps, opStep, wantedA, opA, evo, evos, calleeA, lk, nif_eq, putE, paramsE, valS, val2, keepE, restrict, finA, resA, binA, binInt, ofConst, ofConst1, loadA, TK.isAgg, asVar, unA, builtinA, lenOpA, lenA, indexAddrA, evPairs, storeA, AV.cellsOf, pairsOf, xI_nil, binBool, gcE, evOpt, runTr, pairsOk, pairOk, sameVal, AV.eqv, lastOf, lstAt, eqvs, boundA, indexA, regF, twoOf, prsOf, memI, runTrF, selF, runTr2, freshOp, scals, AV.scal, xI_block, xI_loopH, xI_condM, xI_exitM, xI_skip, xI_blk, exitA, List.getElem?_cons_zero, List.getElem?_cons_succ, List.getElem?_toArray, List.getElem?_nil, ileb_t, ileb_f, ieqb_t, ieqb_f, inB_t, wrapA_id, lp_read, ieqb_self, Nat.blt_eq, cond_true, cond_false, ty2, ty4, ty22, eK48_0_0, eK48_1_2, eK48_1_1, eK48_1_0, e2, ha, bs22]
    exact h3
theorem o48 (l : List Int) (len : Nat) (hlen : len = l.length) (hs : len < 3000000) : FnO TT 48 [.lst len (ints l)] (choR l) := by
  have e1 := fun σ => v87 l len hlen hs σ [.lst len (ints l)] rfl
  unfold choR
  cases ho : isO l with
  | false =>
    rw [ho] at e1
    rw [if_neg (by simp)]
    refine FnO.mkN fn48 rfl md48 ⟨⟨[], 0⟩, ?_⟩
    rw [fi48]
    simp (maxSteps := 1000000) (disch := omega) [xI_seq, xI_region, xI_ret, regA, regOps, runOps, opStep, wantedA, opA, evo, evos, calleeA, lk, nif_eq, putE, paramsE, valS, val2, keepE, restrict, finA, resA, binA, binInt, ofConst, ofConst1, loadA, TK.isAgg, asVar, unA, builtinA, lenOpA, lenA, indexAddrA, evPairs, storeA, AV.cellsOf, pairsOf, xI_nil, binBool, gcE, evOpt, runTr, pairsOk, pairOk, sameVal, AV.eqv, lastOf, lstAt, eqvs, boundA, indexA, regF, twoOf, prsOf, memI, runTrF, selF, runTr2, freshOp, scals, AV.scal, xI_block, xI_loopH, xI_condM, xI_exitM, xI_skip, xI_blk, exitA, List.getElem?_cons_zero, List.getElem?_cons_succ, List.getElem?_toArray, List.getElem?_nil, ileb_t, ileb_f, ieqb_t, ieqb_f, inB_t, wrapA_id, lp_read, ieqb_self, Nat.blt_eq, cond_true, cond_false, ty2, ty4, ty22, eK48_0_0, eK48_1_2, eK48_1_1, eK48_1_0, e1]
  | true =>
    rw [ho] at e1
    rw [if_pos rfl]
    have hl := isO_len ho
    obtain ⟨o, e3⟩ := s65 len (by omega) ⟨[], 0⟩ [.int .i64 len] rfl
    rw [iotaF_length] at e3
    obtain ⟨σ', b', q', h1, ⟨o2, h2, _⟩, h3⟩ := l48 l len hlen (by omega) (by rw [hlen]; exact isO_in ho) (len - 1) (iotaF 0 len) [] 0 (((⟨[], 0⟩ : St).push ⟨ints (iotaF 0 len), 1, o⟩).push ⟨ints [], 1, false⟩) 0 1 (by omega) (iotaF_length _ _) (fun x hx => mem_iota hx) rfl (by omega) (by omega) (Row.push.pushed) Row.push
    rw [← hlen]
    refine FnO.mkS fn48 rfl md48 ⟨σ', b', o2, ?_, h2⟩
    rw [← h3, ← h1]
    have t1 : ((len - 1 : Nat) : Int) = (len : Int) - 1 := by omega
    rw [t1, fi48]
    simp (maxSteps := 1000000) (disch := omega) [xI_seq, xI_region, xI_ret, regA, regOps, runOps, opStep, wantedA, opA, evo, evos, calleeA, lk, nif_eq, putE, paramsE, valS, val2, keepE, restrict, finA, resA, binA, binInt, ofConst, ofConst1, loadA, TK.isAgg, asVar, unA, builtinA, lenOpA, lenA, indexAddrA, evPairs, storeA, AV.cellsOf, pairsOf, xI_nil, binBool, gcE, evOpt, runTr, pairsOk, pairOk, sameVal, AV.eqv, lastOf, lstAt, eqvs, boundA, indexA, regF, twoOf, prsOf, memI, runTrF, selF, runTr2, freshOp, scals, AV.scal, xI_block, xI_loopH, xI_condM, xI_exitM, xI_skip, xI_blk, exitA, List.getElem?_cons_zero, List.getElem?_cons_succ, List.getElem?_toArray, List.getElem?_nil, ileb_t, ileb_f, ieqb_t, ieqb_f, inB_t, wrapA_id, lp_read, ieqb_self, Nat.blt_eq, cond_true, cond_false, ty2, ty4, ty22, eK48_0_0, eK48_1_2, eK48_1_1, eK48_1_0, e1, e3, bn22]
    rfl
theorem choR_length {l out : List Int} (h : choR l = some out) : out.length ≤ 12 := by
  unfold choR at h
  split at h
  · rename_i ho
    have := isO_len ho
    cases h
    rw [cho_length]
    simp; omega
  · cases h

set_option maxHeartbeats 2000000 in
theorem w15  (v : AV) (l : List Int) (hv : (v = .lst l.length (ints l)) ∨ (v = .nilS ∧ l = [])) : FnV TT 15 [v] (.bool true) := by
  refine FnV.mk fn15 rfl md15 ?_ (fun _ => rfl) rfl
  rw [fi15]
  rcases hv with rfl | ⟨rfl, rfl⟩
  · by_cases hbig : 1048576 < l.length
    · refine ⟨⟨[], 0⟩, ?_⟩
      have hbig' : ¬ (l.length : Int) ≤ 1048576 := by omega
      simp [xI_seq, xI_region, xI_ret, regA, regOps, runOps, opStep, wantedA, opA, evo, evos, calleeA, lk, nif_eq, putE, paramsE, valS, val2, keepE, restrict, finA, resA, binA, binInt, ofConst, ofConst1, loadA, TK.isAgg, asVar, unA, builtinA, lenOpA, lenA, ileb_cast, ileb_eq, ieqb_dec, indexAddrA, inB_dec, evPairs, storeA, AV.cellsOf, pairsOf, xI_nil, binBool, gcE, evOpt, xI_block, xI_loopH, xI_condM, xI_exitM, xI_skip, xI_blk, exitA, ty2, ty3, ty4, ty22, hbig, hbig']
    · have hl : l.length ≤ 1048576 := by omega
      have hout : ∀ out, choR l = some out → out.length ≤ 12 := fun _ h => choR_length h
      cases hx : choR l with
      | none =>
        have hS := o48 l l.length rfl (by omega)
        have hI := o49 l l.length rfl (by omega)
        rw [hx] at hS hI
        obtain ⟨b1, σ1, c1, r1, o1, e1⟩ := FnS.row (s21 l l.length rfl (by omega)) (σ := (⟨[], 0⟩ : St)) (args := [.lst l.length (ints l)]) rfl
        have c2 := FnO.nil hS (σ := σ1) (args := [.sl b1 0 l.length l.length]) (mapO_cons (r1.frz rfl (Nat.le_refl _)) rfl)
        have := r1.lt
        obtain ⟨b3, σ3, c3, r3, o3, e3⟩ := FnS.row (s21 l l.length rfl (by omega)) (σ := σ1) (args := [.lst l.length (ints l)]) rfl
        replace r1 := r1.old o3
        have c4 := FnO.nil hI (σ := σ3) (args := [.sl b3 0 l.length l.length]) (mapO_cons (r3.frz rfl (Nat.le_refl _)) rfl)
        have c5 := v23n σ3 [.nilS, .nilS] rfl
        have := r1.lt
        have := r3.lt
        obtain ⟨b6, σ6, c6, r6, o6, e6⟩ := FnS.row (s21 l l.length rfl (by omega)) (σ := σ3) (args := [.lst l.length (ints l)]) rfl
        replace r1 := r1.old o6
        replace r3 := r3.old o6
        have c7 := v23 l l l.length l.length rfl rfl (by omega) σ6 [.sl b3 0 l.length l.length, .sl b6 0 l.length l.length] (mapO_cons (r3.frz rfl (Nat.le_refl _)) (mapO_cons (r6.frz rfl (Nat.le_refl _)) rfl))
        simp only [decide_true] at c7
        obtain ⟨σ8, c8, q8, u8⟩ := m24 σ6 b3 l.length 1 l rfl (by omega) (by omega) r3
        replace r1 := r1.but (by omega) u8
        replace r6 := r6.but (by omega) u8
        have z8 := u8.1
        have c9 := v23n σ8 [.nilS, .nilS] rfl
        have c10 := m24n σ8 1
        have c11 := v25n 1 σ8 [.nilS, .int .i64 (1 : Nat)] rfl
        have := r1.lt
        have := q8.lt
        have := r6.lt
        obtain ⟨b12, σ12, c12, r12, o12, e12⟩ := FnS.row (s21 l l.length rfl (by omega)) (σ := σ8) (args := [.lst l.length (ints l)]) rfl
        replace r1 := r1.old o12
        replace q8 := q8.old o12
        replace r6 := r6.old o12
        have c13 := FnO.nil hI (σ := σ12) (args := [.sl b12 0 l.length l.length]) (mapO_cons (r12.frz rfl (Nat.le_refl _)) rfl)
        have c14 := v23n σ12 [.nilS, .nilS] rfl
        have c15 := v25n 1 σ12 [.nilS, .int .i64 (1 : Nat)] rfl
        refine ⟨σ12, ?_⟩
        clear hS hI
        simp only [show ((1 : Nat) : Int) = 1 from rfl, Int.natCast_add] at c1 c2 c3 c4 c5 c6 c7 c8 c9 c10 c11 c12 c13 c14 c15
        have hz1 : (0 : Int) ≤ 1 + (l.length : Int) := by omega
        have hbg : (l.length : Int) ≤ 1048576 := by omega
        simp [xI_seq, xI_region, xI_ret, regA, regOps, runOps, opStep, wantedA, opA, evo, evos, calleeA, lk, nif_eq, putE, paramsE, valS, val2, keepE, restrict, finA, resA, binA, binInt, ofConst, ofConst1, loadA, TK.isAgg, asVar, unA, builtinA, lenOpA, lenA, ileb_cast, ileb_eq, ieqb_dec, indexAddrA, inB_dec, evPairs, storeA, AV.cellsOf, pairsOf, xI_nil, binBool, gcE, evOpt, xI_block, xI_loopH, xI_condM, xI_exitM, xI_skip, xI_blk, exitA, ty2, ty3, ty4, ty22, c1, c2, c3, c4, c5, c6, c7, c8, c9, c10, c11, c12, c13, c14, c15, hz1, hbg]
      | some out =>
        have hS := o48 l l.length rfl (by omega)
        have hI := o49 l l.length rfl (by omega)
        rw [hx] at hS hI
        have hlo : out.length < 1000000 := by have := hout out hx; omega
        obtain ⟨b1, σ1, c1, r1, o1, e1⟩ := FnS.row (s21 l l.length rfl (by omega)) (σ := (⟨[], 0⟩ : St)) (args := [.lst l.length (ints l)]) rfl
        have := r1.lt
        obtain ⟨b2, σ2, c2, r2, o2, e2⟩ := FnO.row hS (σ := σ1) (args := [.sl b1 0 l.length l.length]) (mapO_cons (r1.frz rfl (Nat.le_refl _)) rfl)
        replace r1 := r1.old o2
        have := r1.lt
        have := r2.lt
        obtain ⟨b3, σ3, c3, r3, o3, e3⟩ := FnS.row (s21 l l.length rfl (by omega)) (σ := σ2) (args := [.lst l.length (ints l)]) rfl
        replace r1 := r1.old o3
        replace r2 := r2.old o3
        have := r1.lt
        have := r2.lt
        have := r3.lt
        obtain ⟨b4, σ4, c4, r4, o4, e4⟩ := FnO.row hI (σ := σ3) (args := [.sl b3 0 l.length l.length]) (mapO_cons (r3.frz rfl (Nat.le_refl _)) rfl)
        replace r1 := r1.old o4
        replace r2 := r2.old o4
        replace r3 := r3.old o4
        have c5 := v23 out out out.length out.length rfl rfl (by omega) σ4 [.sl b4 0 out.length out.length, .sl b2 0 out.length out.length] (mapO_cons (r4.frz rfl (Nat.le_refl _)) (mapO_cons (r2.frz rfl (Nat.le_refl _)) rfl))
        simp only [decide_true] at c5
        have := r1.lt
        have := r2.lt
        have := r3.lt
        have := r4.lt
        obtain ⟨b6, σ6, c6, r6, o6, e6⟩ := FnS.row (s21 l l.length rfl (by omega)) (σ := σ4) (args := [.lst l.length (ints l)]) rfl
        replace r1 := r1.old o6
        replace r2 := r2.old o6
        replace r3 := r3.old o6
        replace r4 := r4.old o6
        have c7 := v23 l l l.length l.length rfl rfl (by omega) σ6 [.sl b3 0 l.length l.length, .sl b6 0 l.length l.length] (mapO_cons (r3.frz rfl (Nat.le_refl _)) (mapO_cons (r6.frz rfl (Nat.le_refl _)) rfl))
        simp only [decide_true] at c7
        obtain ⟨σ8, c8, q8, u8⟩ := m24 σ6 b3 l.length 1 l rfl (by omega) (by omega) r3
        replace r1 := r1.but (by omega) u8
        replace r2 := r2.but (by omega) u8
        replace r4 := r4.but (by omega) u8
        replace r6 := r6.but (by omega) u8
        have z8 := u8.1
        have c9 := v23 out out out.length out.length rfl rfl (by omega) σ8 [.sl b4 0 out.length out.length, .sl b2 0 out.length out.length] (mapO_cons (r4.frz rfl (Nat.le_refl _)) (mapO_cons (r2.frz rfl (Nat.le_refl _)) rfl))
        simp only [decide_true] at c9
        obtain ⟨σ10, c10, q10, u10⟩ := m24 σ8 b4 out.length 1 out rfl (by omega) (by omega) r4
        replace r1 := r1.but (by omega) u10
        replace r2 := r2.but (by omega) u10
        replace q8 := q8.but (by omega) u10
        replace r6 := r6.but (by omega) u10
        have z10 := u10.1
        have c11 := v25 out.length 1 (by omega) (by omega) σ10 [.sl b4 0 out.length out.length, .int .i64 (1 : Nat)] (mapO_cons (q10.frz (iotaF_length _ _).symm (Nat.le_refl _)) rfl)
        have := r1.lt
        have := r2.lt
        have := q8.lt
        have := q10.lt
        have := r6.lt
        obtain ⟨b12, σ12, c12, r12, o12, e12⟩ := FnS.row (s21 l l.length rfl (by omega)) (σ := σ10) (args := [.lst l.length (ints l)]) rfl
        replace r1 := r1.old o12
        replace r2 := r2.old o12
        replace q8 := q8.old o12
        replace q10 := q10.old o12
        replace r6 := r6.old o12
        have := r1.lt
        have := r2.lt
        have := q8.lt
        have := q10.lt
        have := r6.lt
        have := r12.lt
        obtain ⟨b13, σ13, c13, r13, o13, e13⟩ := FnO.row hI (σ := σ12) (args := [.sl b12 0 l.length l.length]) (mapO_cons (r12.frz rfl (Nat.le_refl _)) rfl)
        replace r1 := r1.old o13
        replace r2 := r2.old o13
        replace q8 := q8.old o13
        replace q10 := q10.old o13
        replace r6 := r6.old o13
        replace r12 := r12.old o13
        have c14 := v23 out out out.length out.length rfl rfl (by omega) σ13 [.sl b13 0 out.length out.length, .sl b2 0 out.length out.length] (mapO_cons (r13.frz rfl (Nat.le_refl _)) (mapO_cons (r2.frz rfl (Nat.le_refl _)) rfl))
        simp only [decide_true] at c14
        have c15 := v25 out.length 1 (by omega) (by omega) σ13 [.sl b4 0 out.length out.length, .int .i64 (1 : Nat)] (mapO_cons (q10.frz (iotaF_length _ _).symm (Nat.le_refl _)) rfl)
        refine ⟨σ13, ?_⟩
        clear hS hI
        simp only [show ((1 : Nat) : Int) = 1 from rfl, Int.natCast_add] at c1 c2 c3 c4 c5 c6 c7 c8 c9 c10 c11 c12 c13 c14 c15
        have hz1 : (0 : Int) ≤ 1 + (l.length : Int) := by omega
        have hbg : (l.length : Int) ≤ 1048576 := by omega
        have hz2 : (0 : Int) ≤ 1 + (out.length : Int) := by omega
        simp [xI_seq, xI_region, xI_ret, regA, regOps, runOps, opStep, wantedA, opA, evo, evos, calleeA, lk, nif_eq, putE, paramsE, valS, val2, keepE, restrict, finA, resA, binA, binInt, ofConst, ofConst1, loadA, TK.isAgg, asVar, unA, builtinA, lenOpA, lenA, ileb_cast, ileb_eq, ieqb_dec, indexAddrA, inB_dec, evPairs, storeA, AV.cellsOf, pairsOf, xI_nil, binBool, gcE, evOpt, xI_block, xI_loopH, xI_condM, xI_exitM, xI_skip, xI_blk, exitA, ty2, ty3, ty4, ty22, c1, c2, c3, c4, c5, c6, c7, c8, c9, c10, c11, c12, c13, c14, c15, hz1, hbg, hz2]
  · have hl : ([] : List Int).length ≤ 1048576 := by decide
    generalize hnil : ([] : List Int) = l at *
    have hout : ∀ out, choR l = some out → out.length ≤ 12 := fun _ h => choR_length h
    have hto : FnS TT 21 [.nilS] l := by rw [← hnil]; exact s21n
    cases hx : choR l with
    | none =>
      have hS := o48 l l.length rfl (by omega)
      have hI := o49 l l.length rfl (by omega)
      rw [hx] at hS hI
      obtain ⟨b1, σ1, c1, r1, o1, e1⟩ := FnS.row hto (σ := (⟨[], 0⟩ : St)) (args := [.nilS]) rfl
      have c2 := FnO.nil hS (σ := σ1) (args := [.sl b1 0 l.length l.length]) (mapO_cons (r1.frz rfl (Nat.le_refl _)) rfl)
      have := r1.lt
      obtain ⟨b3, σ3, c3, r3, o3, e3⟩ := FnS.row hto (σ := σ1) (args := [.nilS]) rfl
      replace r1 := r1.old o3
      have c4 := FnO.nil hI (σ := σ3) (args := [.sl b3 0 l.length l.length]) (mapO_cons (r3.frz rfl (Nat.le_refl _)) rfl)
      have c5 := v23n σ3 [.nilS, .nilS] rfl
      have := r1.lt
      have := r3.lt
      obtain ⟨b6, σ6, c6, r6, o6, e6⟩ := FnS.row hto (σ := σ3) (args := [.nilS]) rfl
      replace r1 := r1.old o6
      replace r3 := r3.old o6
      have c7 := v23 l l l.length l.length rfl rfl (by omega) σ6 [.sl b3 0 l.length l.length, .sl b6 0 l.length l.length] (mapO_cons (r3.frz rfl (Nat.le_refl _)) (mapO_cons (r6.frz rfl (Nat.le_refl _)) rfl))
      simp only [decide_true] at c7
      obtain ⟨σ8, c8, q8, u8⟩ := m24 σ6 b3 l.length 1 l rfl (by omega) (by omega) r3
      replace r1 := r1.but (by omega) u8
      replace r6 := r6.but (by omega) u8
      have z8 := u8.1
      have c9 := v23n σ8 [.nilS, .nilS] rfl
      have c10 := m24n σ8 1
      have c11 := v25n 1 σ8 [.nilS, .int .i64 (1 : Nat)] rfl
      have := r1.lt
      have := q8.lt
      have := r6.lt
      obtain ⟨b12, σ12, c12, r12, o12, e12⟩ := FnS.row hto (σ := σ8) (args := [.nilS]) rfl
      replace r1 := r1.old o12
      replace q8 := q8.old o12
      replace r6 := r6.old o12
      have c13 := FnO.nil hI (σ := σ12) (args := [.sl b12 0 l.length l.length]) (mapO_cons (r12.frz rfl (Nat.le_refl _)) rfl)
      have c14 := v23n σ12 [.nilS, .nilS] rfl
      have c15 := v25n 1 σ12 [.nilS, .int .i64 (1 : Nat)] rfl
      refine ⟨σ12, ?_⟩
      clear hS hI
      simp only [show ((1 : Nat) : Int) = 1 from rfl, Int.natCast_add] at c1 c2 c3 c4 c5 c6 c7 c8 c9 c10 c11 c12 c13 c14 c15
      have hz1 : (0 : Int) ≤ 1 + (l.length : Int) := by omega
      have hbg : (l.length : Int) ≤ 1048576 := by omega
      simp [xI_seq, xI_region, xI_ret, regA, regOps, runOps, opStep, wantedA, opA, evo, evos, calleeA, lk, nif_eq, putE, paramsE, valS, val2, keepE, restrict, finA, resA, binA, binInt, ofConst, ofConst1, loadA, TK.isAgg, asVar, unA, builtinA, lenOpA, lenA, ileb_cast, ileb_eq, ieqb_dec, indexAddrA, inB_dec, evPairs, storeA, AV.cellsOf, pairsOf, xI_nil, binBool, gcE, evOpt, xI_block, xI_loopH, xI_condM, xI_exitM, xI_skip, xI_blk, exitA, ty2, ty3, ty4, ty22, c1, c2, c3, c4, c5, c6, c7, c8, c9, c10, c11, c12, c13, c14, c15, hz1, hbg]
    | some out =>
      have hS := o48 l l.length rfl (by omega)
      have hI := o49 l l.length rfl (by omega)
      rw [hx] at hS hI
      have hlo : out.length < 1000000 := by have := hout out hx; omega
      obtain ⟨b1, σ1, c1, r1, o1, e1⟩ := FnS.row hto (σ := (⟨[], 0⟩ : St)) (args := [.nilS]) rfl
      have := r1.lt
      obtain ⟨b2, σ2, c2, r2, o2, e2⟩ := FnO.row hS (σ := σ1) (args := [.sl b1 0 l.length l.length]) (mapO_cons (r1.frz rfl (Nat.le_refl _)) rfl)
      replace r1 := r1.old o2
      have := r1.lt
      have := r2.lt
      obtain ⟨b3, σ3, c3, r3, o3, e3⟩ := FnS.row hto (σ := σ2) (args := [.nilS]) rfl
      replace r1 := r1.old o3
      replace r2 := r2.old o3
      have := r1.lt
      have := r2.lt
      have := r3.lt
      obtain ⟨b4, σ4, c4, r4, o4, e4⟩ := FnO.row hI (σ := σ3) (args := [.sl b3 0 l.length l.length]) (mapO_cons (r3.frz rfl (Nat.le_refl _)) rfl)
      replace r1 := r1.old o4
      replace r2 := r2.old o4
      replace r3 := r3.old o4
      have c5 := v23 out out out.length out.length rfl rfl (by omega) σ4 [.sl b4 0 out.length out.length, .sl b2 0 out.length out.length] (mapO_cons (r4.frz rfl (Nat.le_refl _)) (mapO_cons (r2.frz rfl (Nat.le_refl _)) rfl))
      simp only [decide_true] at c5
      have := r1.lt
      have := r2.lt
      have := r3.lt
      have := r4.lt
      obtain ⟨b6, σ6, c6, r6, o6, e6⟩ := FnS.row hto (σ := σ4) (args := [.nilS]) rfl
      replace r1 := r1.old o6
      replace r2 := r2.old o6
      replace r3 := r3.old o6
      replace r4 := r4.old o6
      have c7 := v23 l l l.length l.length rfl rfl (by omega) σ6 [.sl b3 0 l.length l.length, .sl b6 0 l.length l.length] (mapO_cons (r3.frz rfl (Nat.le_refl _)) (mapO_cons (r6.frz rfl (Nat.le_refl _)) rfl))
      simp only [decide_true] at c7
      obtain ⟨σ8, c8, q8, u8⟩ := m24 σ6 b3 l.length 1 l rfl (by omega) (by omega) r3
      replace r1 := r1.but (by omega) u8
      replace r2 := r2.but (by omega) u8
      replace r4 := r4.but (by omega) u8
      replace r6 := r6.but (by omega) u8
      have z8 := u8.1
      have c9 := v23 out out out.length out.length rfl rfl (by omega) σ8 [.sl b4 0 out.length out.length, .sl b2 0 out.length out.length] (mapO_cons (r4.frz rfl (Nat.le_refl _)) (mapO_cons (r2.frz rfl (Nat.le_refl _)) rfl))
      simp only [decide_true] at c9
      obtain ⟨σ10, c10, q10, u10⟩ := m24 σ8 b4 out.length 1 out rfl (by omega) (by omega) r4
      replace r1 := r1.but (by omega) u10
      replace r2 := r2.but (by omega) u10
      replace q8 := q8.but (by omega) u10
      replace r6 := r6.but (by omega) u10
      have z10 := u10.1
      have c11 := v25 out.length 1 (by omega) (by omega) σ10 [.sl b4 0 out.length out.length, .int .i64 (1 : Nat)] (mapO_cons (q10.frz (iotaF_length _ _).symm (Nat.le_refl _)) rfl)
      have := r1.lt
      have := r2.lt
      have := q8.lt
      have := q10.lt
      have := r6.lt
      obtain ⟨b12, σ12, c12, r12, o12, e12⟩ := FnS.row hto (σ := σ10) (args := [.nilS]) rfl
      replace r1 := r1.old o12
      replace r2 := r2.old o12
      replace q8 := q8.old o12
      replace q10 := q10.old o12
      replace r6 := r6.old o12
      have := r1.lt
      have := r2.lt
      have := q8.lt
      have := q10.lt
      have := r6.lt
      have := r12.lt
      obtain ⟨b13, σ13, c13, r13, o13, e13⟩ := FnO.row hI (σ := σ12) (args := [.sl b12 0 l.length l.length]) (mapO_cons (r12.frz rfl (Nat.le_refl _)) rfl)
      replace r1 := r1.old o13
      replace r2 := r2.old o13
      replace q8 := q8.old o13
      replace q10 := q10.old o13
      replace r6 := r6.old o13
      replace r12 := r12.old o13
      have c14 := v23 out out out.length out.length rfl rfl (by omega) σ13 [.sl b13 0 out.length out.length, .sl b2 0 out.length out.length] (mapO_cons (r13.frz rfl (Nat.le_refl _)) (mapO_cons (r2.frz rfl (Nat.le_refl _)) rfl))
      simp only [decide_true] at c14
      have c15 := v25 out.length 1 (by omega) (by omega) σ13 [.sl b4 0 out.length out.length, .int .i64 (1 : Nat)] (mapO_cons (q10.frz (iotaF_length _ _).symm (Nat.le_refl _)) rfl)
      refine ⟨σ13, ?_⟩
      clear hS hI
      simp only [show ((1 : Nat) : Int) = 1 from rfl, Int.natCast_add] at c1 c2 c3 c4 c5 c6 c7 c8 c9 c10 c11 c12 c13 c14 c15
      have hz1 : (0 : Int) ≤ 1 + (l.length : Int) := by omega
      have hbg : (l.length : Int) ≤ 1048576 := by omega
      have hz2 : (0 : Int) ≤ 1 + (out.length : Int) := by omega
      simp [xI_seq, xI_region, xI_ret, regA, regOps, runOps, opStep, wantedA, opA, evo, evos, calleeA, lk, nif_eq, putE, paramsE, valS, val2, keepE, restrict, finA, resA, binA, binInt, ofConst, ofConst1, loadA, TK.isAgg, asVar, unA, builtinA, lenOpA, lenA, ileb_cast, ileb_eq, ieqb_dec, indexAddrA, inB_dec, evPairs, storeA, AV.cellsOf, pairsOf, xI_nil, binBool, gcE, evOpt, xI_block, xI_loopH, xI_condM, xI_exitM, xI_skip, xI_blk, exitA, ty2, ty3, ty4, ty22, c1, c2, c3, c4, c5, c6, c7, c8, c9, c10, c11, c12, c13, c14, c15, hz1, hbg, hz2]
end Go.Proofs.Ytaniaeefijgaiaa
