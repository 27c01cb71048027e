/- Contracts and law: rising sequences of an order. Nothing is claimed here; no condition. -/
import Derived.Test.YtaniaeefijgaiaaDe
namespace Go.Proofs.Ytaniaeefijgaiaa
open Go Go.Abs
set_option linter.unusedSimpArgs false
set_option linter.unusedVariables false
/-- A cell of a list. -/
def at0 (l : List Int) (i : Nat) : Int := l.getD i 0
theorem at0_mem {l : List Int} {i : Nat} (h : i < l.length) : at0 l i ∈ l := by simp [at0, List.getD_eq_getElem?_getD, h]
theorem at0_some {l : List Int} {i : Nat} (h : i < l.length) : l[i]? = some (at0 l i) := by simp [at0, List.getD_eq_getElem?_getD, h]
theorem at0_of {l : List Int} {i : Nat} {x : Int} (h : l[i]? = some x) : at0 l i = x := by simp [at0, List.getD_eq_getElem?_getD, h]
theorem at0_set (z : List Int) (a b : Nat) (x : Int) (h : a < z.length) : at0 (z.set a x) b = if b = a then x else at0 z b := by
  simp only [at0, List.getD_eq_getElem?_getD, List.getElem?_set]
  by_cases h1 : b = a
  · subst h1; simp [h]
  · have : ¬ a = b := fun e => h1 e.symm
    simp [h1, this]
theorem ileb_t {a b : Int} (h : a ≤ b) : ileb a b = true := by rw [ileb_eq]; exact decide_eq_true h
theorem ileb_f {a b : Int} (h : b < a) : ileb a b = false := by rw [ileb_eq]; exact decide_eq_false (by omega)
theorem ieqb_t {a b : Int} (h : a = b) : ieqb a b = true := by rw [ieqb_dec]; exact decide_eq_true h
theorem ieqb_f {a b : Int} (h : a ≠ b) : ieqb a b = false := by rw [ieqb_dec]; exact decide_eq_false h
theorem ieqb_self {a : Int} : ieqb a a = true := ieqb_t rfl
theorem inB_t {n : Int} {len : Nat} (h : 0 ≤ n) (h2 : n < len) : inB n len = true := by rw [inB_dec]; exact decide_eq_true ⟨h, h2⟩
theorem lp_read {l : List Int} {i : Nat} {σ : St} (h : i < l.length) : cellsAt σ (.lp (ints l) i) 1 = some [.int .i64 (at0 l i)] := lst_read (at0_some h)
theorem row_rd {σ : St} {b i : Nat} {l : List Int} (h : Row σ b l) (hi : i < l.length) : cellsAt σ (.ptr b i) 1 = some [.int .i64 (at0 l i)] := h.read (at0_some hi)

/-! ### Rising sequences: plain law -/
def risG (l : List Int) : Nat → Nat → Int → Int
  | 0, _, r => r
  | m + 1, i, r => risG l m (i + 1) (if ixF ((i : Int) + 1) l 0 < ixF i l 0 then r + 1 else r)
def ris (l : List Int) : Int := risG l (l.length - 1) 0 1
/-- Where the numbers stand. -/
def putAt (l : List Int) : Nat → Nat → List Int → List Int
  | 0, _, z => z
  | m + 1, i, z => putAt l m (i + 1) (z.set (at0 l i).toNat i)
def risA (z : List Int) : Nat → Nat → Int → Int
  | 0, _, r => r
  | m + 1, i, r => risA z m (i + 1) (if at0 z i < at0 z (i - 1) then r + 1 else r)
theorem ixF_at (x : Int) : ∀ (l : List Int) (k j : Nat), l.Nodup → l[j]? = some x → ixF x l k = (k + j : Nat)
  | [], k, j, _, h => by simp at h
  | y :: r, k, 0, _, h => by simp at h; simp [ixF, h]
  | y :: r, k, j + 1, hn, h => by
    have hn' := List.nodup_cons.1 hn
    simp only [List.getElem?_cons_succ] at h
    have : x ≠ y := fun e => hn'.1 (e ▸ List.mem_of_getElem? h)
    rw [ixF, if_neg this, ixF_at x r (k + 1) j hn'.2 h]
    congr 1; omega
theorem putAt_length (l : List Int) : ∀ (m i : Nat) (z : List Int), (putAt l m i z).length = z.length
  | 0, _, _ => rfl
  | m + 1, i, z => by rw [putAt, putAt_length l m]; simp
theorem nodup_at {l : List Int} (hn : l.Nodup) {i j : Nat} (hi : i < l.length) (hj : j < l.length) (h : at0 l i = at0 l j) : i = j := by
  have h : l[i] = l[j] := by
    have e1 := at0_some hi; have e2 := at0_some hj
    rw [List.getElem?_eq_getElem hi] at e1; rw [List.getElem?_eq_getElem hj] at e2
    rw [Option.some.inj e1, Option.some.inj e2, h]
  have hp := List.pairwise_iff_getElem.1 hn
  rcases Nat.lt_trichotomy i j with h1 | h1 | h1
  · exact (hp i j hi hj h1 h).elim
  · exact h1
  · exact (hp j i hj hi h1 h.symm).elim
theorem putAt_get (l : List Int) (hn : l.Nodup) (hr : ∀ x ∈ l, 0 ≤ x ∧ x < l.length) : ∀ (m i : Nat) (z : List Int), i + m = l.length → z.length = l.length → ∀ j, j < l.length →
    (j < i → at0 z (at0 l j).toNat = (j : Int)) → at0 (putAt l m i z) (at0 l j).toNat = (j : Int)
  | 0, i, z, hm, _, j, hj, h => h (by omega)
  | m + 1, i, z, hm, hz, j, hj, h => by
    rw [putAt]
    have hxi := hr (at0 l i) (at0_mem (by omega))
    have hxj := hr (at0 l j) (at0_mem hj)
    refine putAt_get l hn hr m (i + 1) _ (by omega) (by simpa using hz) j hj fun hji => ?_
    rw [at0_set z _ _ _ (by omega)]
    by_cases he : j = i
    · subst he; simp
    · have : ¬ (at0 l j).toNat = (at0 l i).toNat := fun e => he (nodup_at hn hj (by omega) (by omega))
      rw [if_neg this]; exact h (by omega)
/-- All numbers below the length are in an order. -/
theorem all_in {l : List Int} (hn : l.Nodup) (hr : ∀ x ∈ l, 0 ≤ x ∧ x < l.length) {x : Nat} (hx : x < l.length) : (x : Int) ∈ l := by
  have h := (List.Nodup.length_le_of_subset (l₁ := ((x : Int) :: l)) (l₂ := iotaF 0 l.length))
  rcases Classical.em ((x : Int) ∈ l) with h1 | h1
  · exact h1
  · have h2 := h (List.nodup_cons.2 ⟨h1, hn⟩) (fun y hy => by
      have hy' : 0 ≤ y ∧ y < l.length := by
        rcases List.mem_cons.1 hy with rfl | hy
        · omega
        · exact hr y hy
      obtain ⟨k, rfl⟩ : ∃ k : Nat, y = k := ⟨y.toNat, by omega⟩
      exact List.mem_of_getElem? (by rw [iotaF_get l.length 0 k (by omega)]; simp))
    rw [iotaF_length] at h2
    simp at h2
    omega
theorem putAt_ix (l : List Int) (hn : l.Nodup) (hr : ∀ x ∈ l, 0 ≤ x ∧ x < l.length) (z : List Int) (hz : z.length = l.length) (x : Nat) (hx : x < l.length) : at0 (putAt l l.length 0 z) x = ixF x l 0 := by
  obtain ⟨j, hj, he⟩ := List.getElem_of_mem (all_in hn hr hx)
  have h1 := putAt_get l hn hr l.length 0 z (by omega) hz j hj (by omega)
  have h2 : at0 l j = x := at0_of (by rw [List.getElem?_eq_getElem hj, he])
  rw [h2] at h1
  rw [ixF_at x l 0 j hn (by rw [List.getElem?_eq_getElem hj, he])]
  simpa using h1
theorem risA_G (l : List Int) (hn : l.Nodup) (hr : ∀ x ∈ l, 0 ≤ x ∧ x < l.length) (z : List Int) (hz : ∀ x : Nat, x < l.length → at0 z x = ixF x l 0) : ∀ (m i : Nat) (r : Int), i + m + 1 = l.length → risA z m (i + 1) r = risG l m i r
  | 0, _, _, _ => rfl
  | m + 1, i, r, h => by
    rw [risA, risG, hz (i + 1) (by omega), show i + 1 - 1 = i by omega, hz i (by omega), risA_G l hn hr z hz m (i + 1) _ (by omega)]
    simp
theorem ris_eq (l : List Int) (h : isO l = true) : risA (putAt l l.length 0 (List.replicate l.length 0)) (l.length - 1) 1 1 = ris l := by
  unfold isO at h
  simp only [Bool.and_eq_true, decide_eq_true_eq] at h
  have h1 := inR_iff.1 h.1
  have h2 : ∀ x ∈ l, 0 ≤ x ∧ x < l.length := fun x hx => by have := allR_spec h.2.1 x hx; omega
  exact risA_G l h.2.2 h2 _ (fun x hx => putAt_ix l h.2.2 h2 _ (by simp) x hx) (l.length - 1) 0 1 (by omega)

noncomputable def b95 : Code := Try.f95.body.getD .skip
noncomputable def B95_0 : Code := (bodyC (bodyC (sndC (fstC (sndC (sndC b95))))))
noncomputable def K95_0 : List It := .lp B95_0 :: .blk 0 :: .code (sndC (sndC (sndC b95))) :: []
theorem xl95_0 {fi : FI} {env : Env} {σ : St} : exI TT fi K95_0 env σ = exI TT fi (.code B95_0 :: K95_0) env σ := by unfold K95_0; exact xI_lp
noncomputable def R95_0_0 : List It := .code (sndC (sndC (sndC b95))) :: []
theorem eK95_0_0 : exitA 0 K95_0 = some R95_0_0 := rfl
set_option maxHeartbeats 1000000 in
theorem l95 (l : List Int) (len : Nat) (hlen : len = l.length) (hs : len ≤ 12) (h1 : 1 ≤ len) (σ : St) : ∀ (m i : Nat) (r : Int), i + m + 1 = len → 0 ≤ r → r ≤ i + 1 →
    exI TT (FI.of Try.f95 (TT.an 95)) K95_0 [(0, .lst len (ints l)), (3, .int .i64 r), (7, .int .i64 ((len : Int) - 1)), (8, .int .i64 i)] σ = some (.int .i64 (risG l m i r), σ) := by
  intro m
  induction m with
  | zero =>
    intro i r hi h0 hr
    rw [fi95]
    rw [xl95_0]
    simp only [B95_0, b95, Try.f95, Option.getD, fstC, sndC, bodyC, thnC, elsC]
    simp (maxSteps := 1000000) (disch := omega) [xI_seq, xI_region, xI_ret, regA, regOps, runOps, opStep, wantedA, opA, evo, evos, calleeA, lk, nif_eq, putE, paramsE, valS, val2, keepE, restrict, finA, resA, binA, binInt, ofConst, ofConst1, loadA, TK.isAgg, asVar, unA, builtinA, lenOpA, lenA, indexAddrA, evPairs, storeA, AV.cellsOf, pairsOf, xI_nil, binBool, gcE, evOpt, runTr, pairsOk, pairOk, sameVal, AV.eqv, lastOf, lstAt, eqvs, boundA, indexA, regF, twoOf, prsOf, memI, runTrF, selF, runTr2, freshOp, scals, AV.scal, xI_block, xI_loopH, xI_condM, xI_exitM, xI_skip, xI_blk, exitA, List.getElem?_cons_zero, List.getElem?_cons_succ, List.getElem?_toArray, List.getElem?_nil, ileb_t, ileb_f, ieqb_t, ieqb_f, inB_t, wrapA_id, lp_read, ieqb_self, Nat.blt_eq, cond_true, cond_false, ty2, ty3, eK95_0_0]
    simp only [R95_0_0, b95, Try.f95, Option.getD, fstC, sndC, bodyC, thnC, elsC]
    simp (maxSteps := 1000000) (disch := omega) [xI_seq, xI_region, xI_ret, regA, regOps, runOps, opStep, wantedA, opA, evo, evos, calleeA, lk, nif_eq, putE, paramsE, valS, val2, keepE, restrict, finA, resA, binA, binInt, ofConst, ofConst1, loadA, TK.isAgg, asVar, unA, builtinA, lenOpA, lenA, indexAddrA, evPairs, storeA, AV.cellsOf, pairsOf, xI_nil, binBool, gcE, evOpt, runTr, pairsOk, pairOk, sameVal, AV.eqv, lastOf, lstAt, eqvs, boundA, indexA, regF, twoOf, prsOf, memI, runTrF, selF, runTr2, freshOp, scals, AV.scal, xI_block, xI_loopH, xI_condM, xI_exitM, xI_skip, xI_blk, exitA, List.getElem?_cons_zero, List.getElem?_cons_succ, List.getElem?_toArray, List.getElem?_nil, ileb_t, ileb_f, ieqb_t, ieqb_f, inB_t, wrapA_id, lp_read, ieqb_self, Nat.blt_eq, cond_true, cond_false, ty2, ty3, eK95_0_0, risG]
  | succ m ih =>
    intro i r hi h0 hr
    have e1 := fun x σ => v97 l len hlen (by omega) x σ [.lst len (ints l), .int .i64 x] rfl
    rw [risG]
    by_cases hc : ixF ((i : Int) + 1) l 0 < ixF i l 0
    · rw [if_pos hc]
      have h2 := ih (i + 1) (r + 1) (by omega) (by omega) (by omega)
      rw [fi95] at h2 ⊢
      rw [xl95_0]
      simp only [B95_0, b95, Try.f95, Option.getD, fstC, sndC, bodyC, thnC, elsC]
      simp (maxSteps := 1000000) (disch := omega) [xI_seq, xI_region, xI_ret, regA, regOps, runOps, opStep, wantedA, opA, evo, evos, calleeA, lk, nif_eq, putE, paramsE, valS, val2, keepE, restrict, finA, resA, binA, binInt, ofConst, ofConst1, loadA, TK.isAgg, asVar, unA, builtinA, lenOpA, lenA, indexAddrA, evPairs, storeA, AV.cellsOf, pairsOf, xI_nil, binBool, gcE, evOpt, runTr, pairsOk, pairOk, sameVal, AV.eqv, lastOf, lstAt, eqvs, boundA, indexA, regF, twoOf, prsOf, memI, runTrF, selF, runTr2, freshOp, scals, AV.scal, xI_block, xI_loopH, xI_condM, xI_exitM, xI_skip, xI_blk, exitA, List.getElem?_cons_zero, List.getElem?_cons_succ, List.getElem?_toArray, List.getElem?_nil, ileb_t, ileb_f, ieqb_t, ieqb_f, inB_t, wrapA_id, lp_read, ieqb_self, Nat.blt_eq, cond_true, cond_false, ty2, ty3, eK95_0_0, e1]
      simpa using h2
    · rw [if_neg hc]
      have h2 := ih (i + 1) r (by omega) (by omega) (by omega)
      rw [fi95] at h2 ⊢
      rw [xl95_0]
      simp only [B95_0, b95, Try.f95, Option.getD, fstC, sndC, bodyC, thnC, elsC]
      simp (maxSteps := 1000000) (disch := omega) [xI_seq, xI_region, xI_ret, regA, regOps, runOps, opStep, wantedA, opA, evo, evos, calleeA, lk, nif_eq, putE, paramsE, valS, val2, keepE, restrict, finA, resA, binA, binInt, ofConst, ofConst1, loadA, TK.isAgg, asVar, unA, builtinA, lenOpA, lenA, indexAddrA, evPairs, storeA, AV.cellsOf, pairsOf, xI_nil, binBool, gcE, evOpt, runTr, pairsOk, pairOk, sameVal, AV.eqv, lastOf, lstAt, eqvs, boundA, indexA, regF, twoOf, prsOf, memI, runTrF, selF, runTr2, freshOp, scals, AV.scal, xI_block, xI_loopH, xI_condM, xI_exitM, xI_skip, xI_blk, exitA, List.getElem?_cons_zero, List.getElem?_cons_succ, List.getElem?_toArray, List.getElem?_nil, ileb_t, ileb_f, ieqb_t, ieqb_f, inB_t, wrapA_id, lp_read, ieqb_self, Nat.blt_eq, cond_true, cond_false, ty2, ty3, eK95_0_0, e1]
      simpa using h2
theorem v95 (l : List Int) (len : Nat) (hlen : len = l.length) (hs : len ≤ 12) (h1 : 1 ≤ len) : FnV TT 95 [.lst len (ints l)] (.int .i64 (ris l)) := by
  have h := l95 l len hlen hs h1 ⟨[], 0⟩ (len - 1) 0 1 (by omega) (by omega) (by omega)
  have e1 := fun σ => v75 l len σ [.lst len (ints l)] rfl
  refine FnV.mk fn95 rfl md95 ⟨⟨[], 0⟩, ?_⟩ (fun _ => rfl) rfl
  rw [ris, ← hlen, ← h]
  rw [fi95]
  simp (maxSteps := 1000000) (disch := omega) [xI_seq, xI_region, xI_ret, regA, regOps, runOps, opStep, wantedA, opA, evo, evos, calleeA, lk, nif_eq, putE, paramsE, valS, val2, keepE, restrict, finA, resA, binA, binInt, ofConst, ofConst1, loadA, TK.isAgg, asVar, unA, builtinA, lenOpA, lenA, indexAddrA, evPairs, storeA, AV.cellsOf, pairsOf, xI_nil, binBool, gcE, evOpt, runTr, pairsOk, pairOk, sameVal, AV.eqv, lastOf, lstAt, eqvs, boundA, indexA, regF, twoOf, prsOf, memI, runTrF, selF, runTr2, freshOp, scals, AV.scal, xI_block, xI_loopH, xI_condM, xI_exitM, xI_skip, xI_blk, exitA, List.getElem?_cons_zero, List.getElem?_cons_succ, List.getElem?_toArray, List.getElem?_nil, ileb_t, ileb_f, ieqb_t, ieqb_f, inB_t, wrapA_id, lp_read, ieqb_self, Nat.blt_eq, cond_true, cond_false, ty2, ty3, eK95_0_0, e1]
  rfl

noncomputable def b94 : Code := Try.f94.body.getD .skip
noncomputable def B94_0 : Code := (bodyC (bodyC (sndC (fstC (sndC (sndC b94))))))
noncomputable def K94_0 : List It := .lp B94_0 :: .blk 0 :: .code (sndC (sndC (sndC b94))) :: []
theorem xl94_0 {fi : FI} {env : Env} {σ : St} : exI TT fi K94_0 env σ = exI TT fi (.code B94_0 :: K94_0) env σ := by unfold K94_0; exact xI_lp
noncomputable def R94_0_0 : List It := .code (sndC (sndC (sndC b94))) :: []
theorem eK94_0_0 : exitA 0 K94_0 = some R94_0_0 := rfl
noncomputable def B94_1 : Code := (bodyC (bodyC (sndC (fstC (sndC (sndC (sndC (sndC b94))))))))
noncomputable def K94_1 : List It := .lp B94_1 :: .blk 2 :: .code (sndC (sndC (sndC (sndC (sndC b94))))) :: []
theorem xl94_1 {fi : FI} {env : Env} {σ : St} : exI TT fi K94_1 env σ = exI TT fi (.code B94_1 :: K94_1) env σ := by unfold K94_1; exact xI_lp
noncomputable def R94_1_2 : List It := .code (sndC (sndC (sndC (sndC (sndC b94))))) :: []
theorem eK94_1_2 : exitA 2 K94_1 = some R94_1_2 := rfl
theorem a94 (l : List Int) (len : Nat) (hlen : len = l.length) (hs : len ≤ 12) (hr : ∀ x ∈ l, 0 ≤ x ∧ x < len) (b : Nat) : ∀ (m i : Nat) (z : List Int) (σ : St), i + m = len → z.length = len → Row σ b z →
    ∃ σ', exI TT (FI.of Try.f94 (TT.an 94)) K94_0 [(0, .lst len (ints l)), (3, .sl b 0 len len), (4, .int .i64 i)] σ = exI TT (FI.of Try.f94 (TT.an 94)) R94_0_0 [(0, .lst len (ints l)), (3, .sl b 0 len len), (4, .int .i64 len), (13, .bool false)] σ' ∧ Row σ' b (putAt l m i z) := by
  intro m
  induction m with
  | zero =>
    intro i z σ hi hz hb
    obtain rfl : i = len := by omega
    refine ⟨σ, ?_, hb⟩
    rw [fi94, xl94_0]
    simp only [B94_0, b94, Try.f94, Option.getD, fstC, sndC, bodyC, thnC, elsC]
    simp (maxSteps := 1000000) (disch := omega) [xI_seq, xI_region, xI_ret, regA, regOps, runOps, opStep, wantedA, opA, evo, evos, calleeA, lk, nif_eq, putE, paramsE, valS, val2, keepE, restrict, finA, resA, binA, binInt, ofConst, ofConst1, loadA, TK.isAgg, asVar, unA, builtinA, lenOpA, lenA, indexAddrA, evPairs, storeA, AV.cellsOf, pairsOf, xI_nil, binBool, gcE, evOpt, runTr, pairsOk, pairOk, sameVal, AV.eqv, lastOf, lstAt, eqvs, boundA, indexA, regF, twoOf, prsOf, memI, runTrF, selF, runTr2, freshOp, scals, AV.scal, xI_block, xI_loopH, xI_condM, xI_exitM, xI_skip, xI_blk, exitA, List.getElem?_cons_zero, List.getElem?_cons_succ, List.getElem?_toArray, List.getElem?_nil, ileb_t, ileb_f, ieqb_t, ieqb_f, inB_t, wrapA_id, lp_read, ieqb_self, Nat.blt_eq, cond_true, cond_false, ty2, ty3, ty22, eK94_0_0, eK94_1_2]
  | succ m ih =>
    intro i z σ hi hz hb
    have hx := hr (at0 l i) (at0_mem (by omega))
    obtain ⟨c, hc⟩ : ∃ c : Nat, at0 l i = c := ⟨(at0 l i).toNat, by omega⟩
    obtain ⟨σ1, s1, r1, n1, o1⟩ := store_row (i := c) (x := (i : Int)) hb (by omega)
    obtain ⟨σ', h2, h3⟩ := ih (i + 1) _ σ1 (by omega) (by simpa using hz) r1
    refine ⟨σ', ?_, by rw [putAt, hc]; exact h3⟩
    rw [← h2]
    rw [fi94, xl94_0]
    simp only [B94_0, b94, Try.f94, Option.getD, fstC, sndC, bodyC, thnC, elsC]
    simp (maxSteps := 1000000) (disch := omega) [xI_seq, xI_region, xI_ret, regA, regOps, runOps, opStep, wantedA, opA, evo, evos, calleeA, lk, nif_eq, putE, paramsE, valS, val2, keepE, restrict, finA, resA, binA, binInt, ofConst, ofConst1, loadA, TK.isAgg, asVar, unA, builtinA, lenOpA, lenA, indexAddrA, evPairs, storeA, AV.cellsOf, pairsOf, xI_nil, binBool, gcE, evOpt, runTr, pairsOk, pairOk, sameVal, AV.eqv, lastOf, lstAt, eqvs, boundA, indexA, regF, twoOf, prsOf, memI, runTrF, selF, runTr2, freshOp, scals, AV.scal, xI_block, xI_loopH, xI_condM, xI_exitM, xI_skip, xI_blk, exitA, List.getElem?_cons_zero, List.getElem?_cons_succ, List.getElem?_toArray, List.getElem?_nil, ileb_t, ileb_f, ieqb_t, ieqb_f, inB_t, wrapA_id, lp_read, ieqb_self, Nat.blt_eq, cond_true, cond_false, ty2, ty3, ty22, eK94_0_0, eK94_1_2, hc, s1]

theorem d94 (z : List Int) (b len : Nat) (hlen : len = z.length) (hs : len ≤ 12) (σ : St) (hb : Row σ b z) : ∀ (m i : Nat) (r : Int), i + m + 1 = len → 0 ≤ r → r ≤ i + 1 →
    exI TT (FI.of Try.f94 (TT.an 94)) K94_1 [(3, .sl b 0 len len), (5, .int .i64 r), (6, .int .i64 (i + 1 : Nat))] σ = some (.int .i64 (risA z m (i + 1) r), σ) := by
  intro m
  induction m with
  | zero =>
    intro i r hi h0 hr
    have hcast : ((i + 1 : Nat) : Int) = (i : Int) + 1 := by omega
    rw [hcast]
    rw [fi94]
    rw [xl94_1]
    simp only [B94_1, b94, Try.f94, Option.getD, fstC, sndC, bodyC, thnC, elsC]
    simp (maxSteps := 1000000) (disch := omega) [xI_seq, xI_region, xI_ret, regA, regOps, runOps, opStep, wantedA, opA, evo, evos, calleeA, lk, nif_eq, putE, paramsE, valS, val2, keepE, restrict, finA, resA, binA, binInt, ofConst, ofConst1, loadA, TK.isAgg, asVar, unA, builtinA, lenOpA, lenA, indexAddrA, evPairs, storeA, AV.cellsOf, pairsOf, xI_nil, binBool, gcE, evOpt, runTr, pairsOk, pairOk, sameVal, AV.eqv, lastOf, lstAt, eqvs, boundA, indexA, regF, twoOf, prsOf, memI, runTrF, selF, runTr2, freshOp, scals, AV.scal, xI_block, xI_loopH, xI_condM, xI_exitM, xI_skip, xI_blk, exitA, List.getElem?_cons_zero, List.getElem?_cons_succ, List.getElem?_toArray, List.getElem?_nil, ileb_t, ileb_f, ieqb_t, ieqb_f, inB_t, wrapA_id, lp_read, ieqb_self, Nat.blt_eq, cond_true, cond_false, ty2, ty3, ty22, eK94_0_0, eK94_1_2]
    simp only [R94_1_2, b94, Try.f94, Option.getD, fstC, sndC, bodyC, thnC, elsC]
    simp (maxSteps := 1000000) (disch := omega) [xI_seq, xI_region, xI_ret, regA, regOps, runOps, opStep, wantedA, opA, evo, evos, calleeA, lk, nif_eq, putE, paramsE, valS, val2, keepE, restrict, finA, resA, binA, binInt, ofConst, ofConst1, loadA, TK.isAgg, asVar, unA, builtinA, lenOpA, lenA, indexAddrA, evPairs, storeA, AV.cellsOf, pairsOf, xI_nil, binBool, gcE, evOpt, runTr, pairsOk, pairOk, sameVal, AV.eqv, lastOf, lstAt, eqvs, boundA, indexA, regF, twoOf, prsOf, memI, runTrF, selF, runTr2, freshOp, scals, AV.scal, xI_block, xI_loopH, xI_condM, xI_exitM, xI_skip, xI_blk, exitA, List.getElem?_cons_zero, List.getElem?_cons_succ, List.getElem?_toArray, List.getElem?_nil, ileb_t, ileb_f, ieqb_t, ieqb_f, inB_t, wrapA_id, lp_read, ieqb_self, Nat.blt_eq, cond_true, cond_false, ty2, ty3, ty22, eK94_0_0, eK94_1_2, risA]
  | succ m ih =>
    intro i r hi h0 hr
    have hcast : ((i + 1 : Nat) : Int) = (i : Int) + 1 := by omega
    have hcast2 : ((i + 1 + 1 : Nat) : Int) = (i : Int) + 1 + 1 := by omega
    have t1 : ((i : Int) + 1).toNat = i + 1 := by omega
    have e1 := row_rd (i := i + 1) hb (by omega)
    have e2 := row_rd (i := i) hb (by omega)
    rw [risA, show i + 1 - 1 = i by omega]
    by_cases hc : at0 z (i + 1) < at0 z i
    · rw [if_pos hc]
      have h2 := ih (i + 1) (r + 1) (by omega) (by omega) (by omega)
      rw [hcast2] at h2
      rw [hcast]
      rw [fi94] at h2 ⊢
      rw [xl94_1]
      simp only [B94_1, b94, Try.f94, Option.getD, fstC, sndC, bodyC, thnC, elsC]
      simp (maxSteps := 1000000) (disch := omega) [xI_seq, xI_region, xI_ret, regA, regOps, runOps, opStep, wantedA, opA, evo, evos, calleeA, lk, nif_eq, putE, paramsE, valS, val2, keepE, restrict, finA, resA, binA, binInt, ofConst, ofConst1, loadA, TK.isAgg, asVar, unA, builtinA, lenOpA, lenA, indexAddrA, evPairs, storeA, AV.cellsOf, pairsOf, xI_nil, binBool, gcE, evOpt, runTr, pairsOk, pairOk, sameVal, AV.eqv, lastOf, lstAt, eqvs, boundA, indexA, regF, twoOf, prsOf, memI, runTrF, selF, runTr2, freshOp, scals, AV.scal, xI_block, xI_loopH, xI_condM, xI_exitM, xI_skip, xI_blk, exitA, List.getElem?_cons_zero, List.getElem?_cons_succ, List.getElem?_toArray, List.getElem?_nil, ileb_t, ileb_f, ieqb_t, ieqb_f, inB_t, wrapA_id, lp_read, ieqb_self, Nat.blt_eq, cond_true, cond_false, ty2, ty3, ty22, eK94_0_0, eK94_1_2, e1, e2, t1]
      exact h2
    · rw [if_neg hc]
      have h2 := ih (i + 1) r (by omega) (by omega) (by omega)
      rw [hcast2] at h2
      rw [hcast]
      rw [fi94] at h2 ⊢
      rw [xl94_1]
      simp only [B94_1, b94, Try.f94, Option.getD, fstC, sndC, bodyC, thnC, elsC]
      simp (maxSteps := 1000000) (disch := omega) [xI_seq, xI_region, xI_ret, regA, regOps, runOps, opStep, wantedA, opA, evo, evos, calleeA, lk, nif_eq, putE, paramsE, valS, val2, keepE, restrict, finA, resA, binA, binInt, ofConst, ofConst1, loadA, TK.isAgg, asVar, unA, builtinA, lenOpA, lenA, indexAddrA, evPairs, storeA, AV.cellsOf, pairsOf, xI_nil, binBool, gcE, evOpt, runTr, pairsOk, pairOk, sameVal, AV.eqv, lastOf, lstAt, eqvs, boundA, indexA, regF, twoOf, prsOf, memI, runTrF, selF, runTr2, freshOp, scals, AV.scal, xI_block, xI_loopH, xI_condM, xI_exitM, xI_skip, xI_blk, exitA, List.getElem?_cons_zero, List.getElem?_cons_succ, List.getElem?_toArray, List.getElem?_nil, ileb_t, ileb_f, ieqb_t, ieqb_f, inB_t, wrapA_id, lp_read, ieqb_self, Nat.blt_eq, cond_true, cond_false, ty2, ty3, ty22, eK94_0_0, eK94_1_2, e1, e2, t1]
      exact h2
theorem v94 (l : List Int) (len : Nat) (hlen : len = l.length) (hs : len ≤ 12) (h1 : 1 ≤ len) (ho : isO l = true) : FnV TT 94 [.lst len (ints l)] (.int .i64 (ris l)) := by
  have hr : ∀ x ∈ l, 0 ≤ x ∧ x < len := fun x hx => by
    unfold isO at ho
    simp only [Bool.and_eq_true] at ho
    have := allR_spec ho.2.1 x hx; omega
  have hm := mk22 ⟨[], 0⟩ len (by omega)
  obtain ⟨σ', h2, h3⟩ := a94 l len hlen hs hr 0 len 0 (List.replicate len 0) ((⟨[], 0⟩ : St).push ⟨ints (List.replicate len 0), 1, false⟩) (by omega) (by simp) Row.push
  have h4 := d94 _ 0 len (by rw [putAt_length]; simp) hs σ' h3 (len - 1) 0 1 (by omega) (by omega) (by omega)
  rw [hlen, ris_eq l ho, ← hlen] at h4
  refine FnV.mk fn94 rfl md94 ⟨σ', ?_⟩ (fun _ => rfl) rfl
  simp only [Int.natCast_zero, show ((0 : Nat) : Int) = 0 from rfl] at h2
  rw [fi94] at h2 h4 ⊢
  simp (maxSteps := 1000000) (disch := omega) [xI_seq, xI_region, xI_ret, regA, regOps, runOps, opStep, wantedA, opA, evo, evos, calleeA, lk, nif_eq, putE, paramsE, valS, val2, keepE, restrict, finA, resA, binA, binInt, ofConst, ofConst1, loadA, TK.isAgg, asVar, unA, builtinA, lenOpA, lenA, indexAddrA, evPairs, storeA, AV.cellsOf, pairsOf, xI_nil, binBool, gcE, evOpt, runTr, pairsOk, pairOk, sameVal, AV.eqv, lastOf, lstAt, eqvs, boundA, indexA, regF, twoOf, prsOf, memI, runTrF, selF, runTr2, freshOp, scals, AV.scal, xI_block, xI_loopH, xI_condM, xI_exitM, xI_skip, xI_blk, exitA, List.getElem?_cons_zero, List.getElem?_cons_succ, List.getElem?_toArray, List.getElem?_nil, ileb_t, ileb_f, ieqb_t, ieqb_f, inB_t, wrapA_id, lp_read, ieqb_self, Nat.blt_eq, cond_true, cond_false, ty2, ty3, ty22, eK94_0_0, eK94_1_2, hm]
  refine h2.trans ?_
  rw [← h4]
  simp only [R94_0_0, b94, Try.f94, Option.getD, fstC, sndC, bodyC, thnC, elsC]
  simp (maxSteps := 1000000) (disch := omega) [xI_seq, xI_region, xI_ret, regA, regOps, runOps, opStep, wantedA, opA, evo, evos, calleeA, lk, nif_eq, putE, paramsE, valS, val2, keepE, restrict, finA, resA, binA, binInt, ofConst, ofConst1, loadA, TK.isAgg, asVar, unA, builtinA, lenOpA, lenA, indexAddrA, evPairs, storeA, AV.cellsOf, pairsOf, xI_nil, binBool, gcE, evOpt, runTr, pairsOk, pairOk, sameVal, AV.eqv, lastOf, lstAt, eqvs, boundA, indexA, regF, twoOf, prsOf, memI, runTrF, selF, runTr2, freshOp, scals, AV.scal, xI_block, xI_loopH, xI_condM, xI_exitM, xI_skip, xI_blk, exitA, List.getElem?_cons_zero, List.getElem?_cons_succ, List.getElem?_toArray, List.getElem?_nil, ileb_t, ileb_f, ieqb_t, ieqb_f, inB_t, wrapA_id, lp_read, ieqb_self, Nat.blt_eq, cond_true, cond_false, ty2, ty3, ty22, eK94_0_0, eK94_1_2]
  rfl

theorem v44 (l : List Int) (len : Nat) (hlen : len = l.length) (hs : len < 3000000) : FnV TT 44 [.lst len (ints l)] (if isO l = true then .tup [.int .i64 (ris l), .bool true] else .tup [.int .i64 0, .bool false]) := by
  have e1 := fun σ => v87 l len hlen hs σ [.lst len (ints l)] rfl
  cases ho : isO l with
  | false =>
    rw [ho] at e1
    refine FnV.mk fn44 rfl md44 ⟨⟨[], 0⟩, ?_⟩ (fun _ => rfl) rfl
    rw [fi44]
    simp (maxSteps := 1000000) (disch := omega) [xI_seq, xI_region, xI_ret, regA, regOps, runOps, opStep, wantedA, opA, evo, evos, calleeA, lk, nif_eq, putE, paramsE, valS, val2, keepE, restrict, finA, resA, binA, binInt, ofConst, ofConst1, loadA, TK.isAgg, asVar, unA, builtinA, lenOpA, lenA, indexAddrA, evPairs, storeA, AV.cellsOf, pairsOf, xI_nil, binBool, gcE, evOpt, runTr, pairsOk, pairOk, sameVal, AV.eqv, lastOf, lstAt, eqvs, boundA, indexA, regF, twoOf, prsOf, memI, runTrF, selF, runTr2, freshOp, scals, AV.scal, xI_block, xI_loopH, xI_condM, xI_exitM, xI_skip, xI_blk, exitA, List.getElem?_cons_zero, List.getElem?_cons_succ, List.getElem?_toArray, List.getElem?_nil, ileb_t, ileb_f, ieqb_t, ieqb_f, inB_t, wrapA_id, lp_read, ieqb_self, Nat.blt_eq, cond_true, cond_false, ty4, e1]
  | true =>
    rw [ho] at e1
    have hl : 1 ≤ len ∧ len ≤ 12 := by
      unfold isO at ho
      simp only [Bool.and_eq_true] at ho
      have := inR_iff.1 ho.1; omega
    have e2 := fun σ => v94 l len hlen hl.2 hl.1 ho σ [.lst len (ints l)] rfl
    refine FnV.mk fn44 rfl md44 ⟨⟨[], 0⟩, ?_⟩ (fun _ => rfl) rfl
    rw [fi44]
    simp (maxSteps := 1000000) (disch := omega) [xI_seq, xI_region, xI_ret, regA, regOps, runOps, opStep, wantedA, opA, evo, evos, calleeA, lk, nif_eq, putE, paramsE, valS, val2, keepE, restrict, finA, resA, binA, binInt, ofConst, ofConst1, loadA, TK.isAgg, asVar, unA, builtinA, lenOpA, lenA, indexAddrA, evPairs, storeA, AV.cellsOf, pairsOf, xI_nil, binBool, gcE, evOpt, runTr, pairsOk, pairOk, sameVal, AV.eqv, lastOf, lstAt, eqvs, boundA, indexA, regF, twoOf, prsOf, memI, runTrF, selF, runTr2, freshOp, scals, AV.scal, xI_block, xI_loopH, xI_condM, xI_exitM, xI_skip, xI_blk, exitA, List.getElem?_cons_zero, List.getElem?_cons_succ, List.getElem?_toArray, List.getElem?_nil, ileb_t, ileb_f, ieqb_t, ieqb_f, inB_t, wrapA_id, lp_read, ieqb_self, Nat.blt_eq, cond_true, cond_false, ty4, e1, e2]

theorem v45 (l : List Int) (len : Nat) (hlen : len = l.length) (hs : len < 3000000) : FnV TT 45 [.lst len (ints l)] (if isO l = true then .tup [.int .i64 (ris l), .bool true] else .tup [.int .i64 0, .bool false]) := by
  have e1 := fun σ => v41 l len hlen hs σ [.lst len (ints l)] rfl
  cases ho : isO l with
  | false =>
    rw [ho] at e1
    refine FnV.mk fn45 rfl md45 ⟨⟨[], 0⟩, ?_⟩ (fun _ => rfl) rfl
    rw [fi45]
    simp (maxSteps := 1000000) (disch := omega) [xI_seq, xI_region, xI_ret, regA, regOps, runOps, opStep, wantedA, opA, evo, evos, calleeA, lk, nif_eq, putE, paramsE, valS, val2, keepE, restrict, finA, resA, binA, binInt, ofConst, ofConst1, loadA, TK.isAgg, asVar, unA, builtinA, lenOpA, lenA, indexAddrA, evPairs, storeA, AV.cellsOf, pairsOf, xI_nil, binBool, gcE, evOpt, runTr, pairsOk, pairOk, sameVal, AV.eqv, lastOf, lstAt, eqvs, boundA, indexA, regF, twoOf, prsOf, memI, runTrF, selF, runTr2, freshOp, scals, AV.scal, xI_block, xI_loopH, xI_condM, xI_exitM, xI_skip, xI_blk, exitA, List.getElem?_cons_zero, List.getElem?_cons_succ, List.getElem?_toArray, List.getElem?_nil, ileb_t, ileb_f, ieqb_t, ieqb_f, inB_t, wrapA_id, lp_read, ieqb_self, Nat.blt_eq, cond_true, cond_false, ty4, e1]
  | true =>
    rw [ho] at e1
    have hl : 1 ≤ len ∧ len ≤ 12 := by
      unfold isO at ho
      simp only [Bool.and_eq_true] at ho
      have := inR_iff.1 ho.1; omega
    have e2 := fun σ => v95 l len hlen hl.2 hl.1 σ [.lst len (ints l)] rfl
    refine FnV.mk fn45 rfl md45 ⟨⟨[], 0⟩, ?_⟩ (fun _ => rfl) rfl
    rw [fi45]
    simp (maxSteps := 1000000) (disch := omega) [xI_seq, xI_region, xI_ret, regA, regOps, runOps, opStep, wantedA, opA, evo, evos, calleeA, lk, nif_eq, putE, paramsE, valS, val2, keepE, restrict, finA, resA, binA, binInt, ofConst, ofConst1, loadA, TK.isAgg, asVar, unA, builtinA, lenOpA, lenA, indexAddrA, evPairs, storeA, AV.cellsOf, pairsOf, xI_nil, binBool, gcE, evOpt, runTr, pairsOk, pairOk, sameVal, AV.eqv, lastOf, lstAt, eqvs, boundA, indexA, regF, twoOf, prsOf, memI, runTrF, selF, runTr2, freshOp, scals, AV.scal, xI_block, xI_loopH, xI_condM, xI_exitM, xI_skip, xI_blk, exitA, List.getElem?_cons_zero, List.getElem?_cons_succ, List.getElem?_toArray, List.getElem?_nil, ileb_t, ileb_f, ieqb_t, ieqb_f, inB_t, wrapA_id, lp_read, ieqb_self, Nat.blt_eq, cond_true, cond_false, ty4, e1, e2]

set_option maxHeartbeats 2000000 in
theorem w13  (l : List Int) : FnV TT 13 [.lst l.length (ints l)] (.bool true) := by
  refine FnV.mk fn13 rfl md13 ?_ (fun _ => rfl) rfl
  rw [fi13]
  by_cases hbig : 1048576 < l.length
  · refine ⟨⟨[], 0⟩, ?_⟩
    have hbig' : ¬ (l.length : Int) ≤ 1048576 := by omega
    simp [xI_seq, xI_region, xI_ret, regA, regOps, runOps, opStep, wantedA, opA, evo, evos, calleeA, lk, nif_eq, putE, paramsE, valS, val2, keepE, restrict, finA, resA, binA, binInt, ofConst, ofConst1, loadA, TK.isAgg, asVar, unA, builtinA, lenOpA, lenA, ileb_cast, ileb_eq, ieqb_dec, indexAddrA, inB_dec, evPairs, storeA, AV.cellsOf, pairsOf, xI_nil, binBool, gcE, evOpt, xI_block, xI_loopH, xI_condM, xI_exitM, xI_skip, xI_blk, exitA, ty2, ty3, ty4, ty22, hbig, hbig']
  · have hl : l.length ≤ 1048576 := by omega
    have hbg : (l.length : Int) ≤ 1048576 := by omega
    have hS := v44 l l.length rfl (by omega)
    have hI := v45 l l.length rfl (by omega)
    obtain ⟨b1, σ1, c1, r1, o1, e1⟩ := FnS.row (s21 l l.length rfl (by omega)) (σ := (⟨[], 0⟩ : St)) (args := [.lst l.length (ints l)]) rfl
    have c2 := hS σ1 [.sl b1 0 l.length l.length] (mapO_cons (r1.frz rfl (Nat.le_refl _)) rfl)
    obtain ⟨b3, σ3, c3, r3, o3, e3⟩ := FnS.row (s21 l l.length rfl (by omega)) (σ := σ1) (args := [.lst l.length (ints l)]) rfl
    have c4 := hI σ3 [.sl b3 0 l.length l.length] (mapO_cons (r3.frz rfl (Nat.le_refl _)) rfl)
    obtain ⟨b5, σ5, c5, r5, o5, e5⟩ := FnS.row (s21 l l.length rfl (by omega)) (σ := σ3) (args := [.lst l.length (ints l)]) rfl
    replace r3 := r3.old o5
    have c6 := v23 l l l.length l.length rfl rfl (by omega) σ5 [.sl b3 0 l.length l.length, .sl b5 0 l.length l.length] (mapO_cons (r3.frz rfl (Nat.le_refl _)) (mapO_cons (r5.frz rfl (Nat.le_refl _)) rfl))
    simp only [decide_true] at c6
    clear hS hI
    refine ⟨σ5, ?_⟩
    by_cases ho : isO l = true
    · rw [if_pos ho] at c2 c4
      simp [xI_seq, xI_region, xI_ret, regA, regOps, runOps, opStep, wantedA, opA, evo, evos, calleeA, lk, nif_eq, putE, paramsE, valS, val2, keepE, restrict, finA, resA, binA, binInt, ofConst, ofConst1, loadA, TK.isAgg, asVar, unA, builtinA, lenOpA, lenA, ileb_cast, ileb_eq, ieqb_dec, indexAddrA, inB_dec, evPairs, storeA, AV.cellsOf, pairsOf, xI_nil, binBool, gcE, evOpt, xI_block, xI_loopH, xI_condM, xI_exitM, xI_skip, xI_blk, exitA, ty2, ty3, ty4, ty22, hbg, c1, c2, c3, c4, c5, c6]
    · rw [if_neg ho] at c2 c4
      simp [xI_seq, xI_region, xI_ret, regA, regOps, runOps, opStep, wantedA, opA, evo, evos, calleeA, lk, nif_eq, putE, paramsE, valS, val2, keepE, restrict, finA, resA, binA, binInt, ofConst, ofConst1, loadA, TK.isAgg, asVar, unA, builtinA, lenOpA, lenA, ileb_cast, ileb_eq, ieqb_dec, indexAddrA, inB_dec, evPairs, storeA, AV.cellsOf, pairsOf, xI_nil, binBool, gcE, evOpt, xI_block, xI_loopH, xI_condM, xI_exitM, xI_skip, xI_blk, exitA, ty2, ty3, ty4, ty22, hbg, c1, c2, c3, c4, c5, c6]

end Go.Proofs.Ytaniaeefijgaiaa
