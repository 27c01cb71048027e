/- Contracts and laws: states behind what is seen. Nothing is claimed here; no condition. -/
import Derived.Test.YtonnbgjbohbibaaEx
namespace Go.Proofs.Ytonnbgjbohbibaa
open Go Go.Abs
set_option linter.unusedSimpArgs false
set_option linter.unusedVariables false
open Go.Wd
theorem es_eqv {σ : St} {e lo w : Nat} {rows : List Nat} {v : AV} (h : ES σ e lo w rows v) : v.eqv v = true := by
  obtain ⟨_, _, _, h4⟩ := h
  rcases h4 with ⟨rfl, _⟩ | ⟨b, _, _, rfl, _⟩ <;> simp [AV.eqv]
theorem es_len {σ : St} {e lo w : Nat} {rows : List Nat} {v : AV} (h : ES σ e lo w rows v) : callI TT 81 [v] σ = some (.int .i64 rows.length, σ) := by
  obtain ⟨_, _, _, h4⟩ := h
  rcases h4 with ⟨rfl, rfl⟩ | ⟨b, _, _, rfl, hr⟩
  · exact v81n σ [.nilS] rfl
  · exact v81 (nints rows) rows.length σ _ (mapO_cons (hr.frz (d := 4) (nints_length _).symm (Nat.le_refl _)) rfl)
theorem v64 (w : Int) (R : List Int) (o : Int) (l : List (Int × Int)) (hs : R.length < 3000000) (hll : l.length < 1000000000000) : FnV TT 64 [.agg (lin w R o), .lst l.length (pairs l)] (stV (stB w R o l)) := by
  have hsc : ∀ r, (stV r).scal = true := fun r => by cases r <;> rfl
  have hfz : ∀ r σ1, frzV σ1 frzDepth (stV r) = some (stV r) := fun r σ1 => by cases r <;> rfl
  refine FnV.mk fn64 rfl md64 ?_ (hfz _) (hsc _)
  obtain ⟨σ, hσ⟩ : ∃ σ, (⟨[], 0⟩ : St).push ⟨lin w R o, 3, false⟩ = σ := ⟨_, rfl⟩
  have hg : σ.get 0 = some ⟨lin w R o, 3, false⟩ := by subst hσ; rfl
  have hn1 : σ.n = 1 := by subst hσ; rfl
  have hcp3 : cellsAt σ (.ptr 0 0) 3 = some [.int .i64 w, .lst R.length (ints R), .int .i64 o] := by subst hσ; rfl
  have h : callI TT 33 [.agg [.int .i64 w, .lst R.length (ints R), .int .i64 o]] σ = some (.bool (vlin w R o), σ) := v33 w R o hs σ _ rfl
  have hi : callI TT 114 [.lst l.length (pairs l)] σ = some (.bool (senOk l), σ) := v114 l hll σ _ rfl
  cases h1 : vlin w R o with
  | false =>
    rw [h1] at h
    rw [stB_no (by rw [h1]; rfl), fi64]
    simp only [lin, stV] at hσ ⊢
    simp [xI_seq, xI_region, xI_ret, regA, regOps, runOps, opStep, wantedA, opA, evo, evos, calleeA, lk, nif_eq, putE, paramsE, valS, val2, keepE, restrict, finA, resA, binA, binInt, ofConst, ofConst1, loadA, TK.isAgg, asVar, unA, builtinA, lenOpA, lenA, ileb_cast, ileb_eq, ieqb_dec, indexAddrA, inB_dec, evPairs, storeA, AV.cellsOf, pairsOf, xI_nil, binBool, gcE, evOpt, xI_block, xI_loopH, xI_condM, xI_exitM, xI_skip, xI_blk, exitA, ty2, ty4, ty33, ty41, ty127, fieldAddrA, allOne, AV.one, n_push, ty2, ty33, ty38, ty41, hσ, hcp3, h]
  | true =>
    rw [h1] at h
    obtain ⟨A, k, rfl, rfl, rfl, h2, h3, h4, h5⟩ := vlin_nat2 h1
    simp only [nints_length] at hcp3 h
    cases hk : senOk l with
    | false =>
      rw [hk] at hi
      rw [stB_no (by rw [hk, Bool.and_false]), fi64]
      simp only [lin, stV, nints_length] at hσ ⊢
      simp [xI_seq, xI_region, xI_ret, regA, regOps, runOps, opStep, wantedA, opA, evo, evos, calleeA, lk, nif_eq, putE, paramsE, valS, val2, keepE, restrict, finA, resA, binA, binInt, ofConst, ofConst1, loadA, TK.isAgg, asVar, unA, builtinA, lenOpA, lenA, ileb_cast, ileb_eq, ieqb_dec, indexAddrA, inB_dec, evPairs, storeA, AV.cellsOf, pairsOf, xI_nil, binBool, gcE, evOpt, xI_block, xI_loopH, xI_condM, xI_exitM, xI_skip, xI_blk, exitA, ty2, ty4, ty33, ty41, ty127, fieldAddrA, allOne, AV.one, n_push, ty2, ty33, ty38, ty41, hσ, hcp3, h, hi]
    | true =>
      rw [hk] at hi
      obtain ⟨S, rfl, hSl, hS⟩ := sen_ok hk
      obtain ⟨σ1, e, lo, c1, g1, g2⟩ := r115 A k h3 h4 h5 S hS hSl 0 (by decide) σ
      simp only [show ((0 : Nat) : Int) = 0 from rfl] at c1
      rw [stB_yes (by rw [h1, hk]; rfl)]
      rw [npairs_length] at hi ⊢
      have hcw : cellsAt σ1 (.ptr 0 0) 1 = some [.int .i64 A.length] := by simp [cellsAt, (g2 0 (by omega)).trans hg, lin, getCells, takeN, dropN]
      simp only [lin, nints_length] at hσ c1 ⊢
      cases ha : addAll A.length [] (seqs A.length A k S) with
      | none =>
        rw [ha] at c1
        simp only [stV, bhR] at c1 ⊢
        rw [fi64]
        simp [xI_seq, xI_region, xI_ret, regA, regOps, runOps, opStep, wantedA, opA, evo, evos, calleeA, lk, nif_eq, putE, paramsE, valS, val2, keepE, restrict, finA, resA, binA, binInt, ofConst, ofConst1, loadA, TK.isAgg, asVar, unA, builtinA, lenOpA, lenA, ileb_cast, ileb_eq, ieqb_dec, indexAddrA, inB_dec, evPairs, storeA, AV.cellsOf, pairsOf, xI_nil, binBool, gcE, evOpt, xI_block, xI_loopH, xI_condM, xI_exitM, xI_skip, xI_blk, exitA, ty2, ty4, ty33, ty41, ty127, fieldAddrA, allOne, AV.one, n_push, ty2, ty33, ty38, ty41, hσ, hcp3, h, hi, c1]
      | some rows =>
        rw [ha] at c1
        obtain ⟨v, hE, hR, hrl⟩ := g1 rows ha
        have hlt := seqs_lt (w := A.length) h4 h5 hS
        obtain ⟨_, _, hrw, _⟩ := (addAll_can (w := A.length) (by omega) hlt).2 rows ha
        have hL := c111 A.length h3 σ1 e lo rows v hE hR.ok (by omega)
        have hv := hE.v
        have hqv := es_eqv hE
        have hln := es_len hE
        have hsub : wrapA .i64 ((A.length : Int) - (rows.length : Int)) = ((A.length - rows.length : Nat) : Int) := by rw [wrapA_id (by omega) (by omega)]; omega
        simp only [stV, bhR] at c1 ⊢
        generalize A.length - rows.length = z at *
        rw [fi64]
        simp [xI_seq, xI_region, xI_ret, regA, regOps, runOps, opStep, wantedA, opA, evo, evos, calleeA, lk, nif_eq, putE, paramsE, valS, val2, keepE, restrict, finA, resA, binA, binInt, ofConst, ofConst1, loadA, TK.isAgg, asVar, unA, builtinA, lenOpA, lenA, ileb_cast, ileb_eq, ieqb_dec, indexAddrA, inB_dec, evPairs, storeA, AV.cellsOf, pairsOf, xI_nil, binBool, gcE, evOpt, xI_block, xI_loopH, xI_condM, xI_exitM, xI_skip, xI_blk, exitA, ty2, ty4, ty33, ty41, ty127, runTr, pairsOk, pairOk, lstAt, lastOf, sameVal, AV.eqv, eqvs, eqvs_ints, regOps, blt_dec, cond_true, cond_false, fieldAddrA, allOne, AV.one, n_push, ty2, ty33, ty38, ty41, ty127, hσ, hcp3, h, hi, c1, hcw, hL, hv, hqv, hln, hsub]

/-- What is told of an output. -/
def pdB (w : Int) (R : List Int) (o : Int) (l : List (Int × Int)) (at_ : Int) : Option Nat := if (vlin w R o && senOk l && inR at_ 0 10000) = true then
  (match addAll R.length [] (seqs R.length (nats R) o.toNat (natP l)) with | some rows => if lead R.length (reduced R.length rows (mk (nats R) o.toNat at_.toNat)) = R.length then some (shrN (reduced R.length rows (mk (nats R) o.toNat at_.toNat)) R.length) else none | none => none) else none
def pdV (r : Option Nat) : AV := match r with
  | some a => .tup [.int .i64 a, .bool true]
  | none => .tup [.int .i64 0, .bool false]
theorem pdB_no {w : Int} {R : List Int} {o : Int} {l : List (Int × Int)} {at_ : Int} (h : (vlin w R o && senOk l && inR at_ 0 10000) = false) : pdB w R o l at_ = none := by simp [pdB, h]
theorem pdB_yes {A : List Nat} {k : Nat} {S : List (Nat × Nat)} {m : Nat} (h : (vlin (A.length : Int) (nints A) k && senOk (npairs S) && inR (m : Int) 0 10000) = true) : pdB (A.length : Int) (nints A) k (npairs S) m = (match addAll A.length [] (seqs A.length A k S) with | some rows => if lead A.length (reduced A.length rows (mk A k m)) = A.length then some (shrN (reduced A.length rows (mk A k m)) A.length) else none | none => none) := by
  unfold pdB; rw [if_pos h]; simp [nats_nints, nints_length, natP_npairs]

theorem v65 (w : Int) (R : List Int) (o : Int) (l : List (Int × Int)) (at_ : Int) (hs : R.length < 3000000) (hll : l.length < 1000000000000) : FnV TT 65 [.agg (lin w R o), .lst l.length (pairs l), .int .i64 at_] (pdV (pdB w R o l at_)) := by
  have hsc : ∀ r, (pdV r).scal = true := fun r => by cases r <;> rfl
  have hfz : ∀ r σ1, frzV σ1 frzDepth (pdV r) = some (pdV r) := fun r σ1 => by cases r <;> rfl
  refine FnV.mk fn65 rfl md65 ?_ (hfz _) (hsc _)
  obtain ⟨σ, hσ⟩ : ∃ σ, (⟨[], 0⟩ : St).push ⟨lin w R o, 3, false⟩ = σ := ⟨_, rfl⟩
  have hg : σ.get 0 = some ⟨lin w R o, 3, false⟩ := by subst hσ; rfl
  have hn1 : σ.n = 1 := by subst hσ; rfl
  have hcp3 : cellsAt σ (.ptr 0 0) 3 = some [.int .i64 w, .lst R.length (ints R), .int .i64 o] := by subst hσ; rfl
  have h : callI TT 33 [.agg [.int .i64 w, .lst R.length (ints R), .int .i64 o]] σ = some (.bool (vlin w R o), σ) := v33 w R o hs σ _ rfl
  have hi : callI TT 114 [.lst l.length (pairs l)] σ = some (.bool (senOk l), σ) := v114 l hll σ _ rfl
  have hr := c80 at_ 0 10000 σ
  cases h1 : vlin w R o with
  | false =>
    rw [h1] at h
    rw [pdB_no (by rw [h1]; rfl), fi65]
    simp only [lin, pdV] at hσ ⊢
    simp [xI_seq, xI_region, xI_ret, regA, regOps, runOps, opStep, wantedA, opA, evo, evos, calleeA, lk, nif_eq, putE, paramsE, valS, val2, keepE, restrict, finA, resA, binA, binInt, ofConst, ofConst1, loadA, TK.isAgg, asVar, unA, builtinA, lenOpA, lenA, ileb_cast, ileb_eq, ieqb_dec, indexAddrA, inB_dec, evPairs, storeA, AV.cellsOf, pairsOf, xI_nil, binBool, gcE, evOpt, xI_block, xI_loopH, xI_condM, xI_exitM, xI_skip, xI_blk, exitA, ty2, ty3, ty4, ty41, ty127, fieldAddrA, allOne, AV.one, n_push, ty2, ty33, ty38, ty41, hσ, hcp3, h]
  | true =>
    rw [h1] at h
    obtain ⟨A, k, rfl, rfl, rfl, h2, h3, h4, h5⟩ := vlin_nat2 h1
    simp only [nints_length] at hcp3 h
    cases hk : senOk l with
    | false =>
      rw [hk] at hi
      rw [pdB_no (by rw [hk, Bool.and_false]; rfl), fi65]
      simp only [lin, pdV, nints_length] at hσ ⊢
      simp [xI_seq, xI_region, xI_ret, regA, regOps, runOps, opStep, wantedA, opA, evo, evos, calleeA, lk, nif_eq, putE, paramsE, valS, val2, keepE, restrict, finA, resA, binA, binInt, ofConst, ofConst1, loadA, TK.isAgg, asVar, unA, builtinA, lenOpA, lenA, ileb_cast, ileb_eq, ieqb_dec, indexAddrA, inB_dec, evPairs, storeA, AV.cellsOf, pairsOf, xI_nil, binBool, gcE, evOpt, xI_block, xI_loopH, xI_condM, xI_exitM, xI_skip, xI_blk, exitA, ty2, ty3, ty4, ty41, ty127, fieldAddrA, allOne, AV.one, n_push, ty2, ty33, ty38, ty41, hσ, hcp3, h, hi]
    | true =>
      rw [hk] at hi
      obtain ⟨S, rfl, hSl, hS⟩ := sen_ok hk
      cases hm : inR at_ 0 10000 with
      | false =>
        rw [hm] at hr
        rw [pdB_no (by rw [hm, Bool.and_false]), fi65]
        rw [npairs_length] at hi ⊢
        simp only [lin, pdV, nints_length] at hσ ⊢
        simp [xI_seq, xI_region, xI_ret, regA, regOps, runOps, opStep, wantedA, opA, evo, evos, calleeA, lk, nif_eq, putE, paramsE, valS, val2, keepE, restrict, finA, resA, binA, binInt, ofConst, ofConst1, loadA, TK.isAgg, asVar, unA, builtinA, lenOpA, lenA, ileb_cast, ileb_eq, ieqb_dec, indexAddrA, inB_dec, evPairs, storeA, AV.cellsOf, pairsOf, xI_nil, binBool, gcE, evOpt, xI_block, xI_loopH, xI_condM, xI_exitM, xI_skip, xI_blk, exitA, ty2, ty3, ty4, ty41, ty127, fieldAddrA, allOne, AV.one, n_push, ty2, ty33, ty38, ty41, hσ, hcp3, h, hi, hr]
      | true =>
        rw [hm] at hr
        have hm2 := inR_iff.1 hm
        obtain ⟨m, rfl⟩ : ∃ m : Nat, at_ = m := ⟨at_.toNat, by omega⟩
        obtain ⟨σ1, e, lo, c1, g1, g2⟩ := r115 A k h3 h4 h5 S hS hSl m (by omega) σ
        rw [pdB_yes (by rw [h1, hk, hm]; rfl)]
        rw [npairs_length] at hi ⊢
        simp only [lin, nints_length] at hσ c1 ⊢
        cases ha : addAll A.length [] (seqs A.length A k S) with
        | none =>
          rw [ha] at c1
          simp only [pdV, bhR] at c1 ⊢
          generalize mk A k m = mm at *
          rw [fi65]
          simp [xI_seq, xI_region, xI_ret, regA, regOps, runOps, opStep, wantedA, opA, evo, evos, calleeA, lk, nif_eq, putE, paramsE, valS, val2, keepE, restrict, finA, resA, binA, binInt, ofConst, ofConst1, loadA, TK.isAgg, asVar, unA, builtinA, lenOpA, lenA, ileb_cast, ileb_eq, ieqb_dec, indexAddrA, inB_dec, evPairs, storeA, AV.cellsOf, pairsOf, xI_nil, binBool, gcE, evOpt, xI_block, xI_loopH, xI_condM, xI_exitM, xI_skip, xI_blk, exitA, ty2, ty3, ty4, ty41, ty127, fieldAddrA, allOne, AV.one, n_push, ty2, ty33, ty38, ty41, hσ, hcp3, h, hi, hr, c1]
        | some rows =>
          rw [ha] at c1
          obtain ⟨v, hE, hR, hrl⟩ := g1 rows ha
          have hmk := mk_lt h4 h5 m
          have hmk2 : mk A k m < 2 ^ (A.length + 1) := Nat.lt_trans hmk (Nat.pow_lt_pow_right (by decide) (by omega))
          have hRd := c116 A.length h3 σ1 e lo rows v hE hR.ok (by omega) (mk A k m) hmk2
          have hrlt := reduced_lt A.length rows (mk A k m) hR.ok hmk2
          have hLd := c117 A.length (reduced A.length rows (mk A k m)) h3 (lt_w h3 hrlt) σ1 e _ v hE.2.2.1 rfl
          have hw := hE.w
          have hlw := lead_le A.length (reduced A.length rows (mk A k m))
          simp only [bhR] at c1
          simp only
          generalize reduced A.length rows (mk A k m) = rr at *
          generalize mk A k m = mm at *
          have hs1 := sh_r (a := rr) (b := A.length) (by omega)
          have hw0 : ¬ ((A.length : Int) < 0) := by omega
          by_cases hl : lead A.length rr = A.length
          · rw [show ldI A.length rr = -1 by simp [ldI, hl]] at hLd
            simp only [if_pos hl, pdV]
            rw [fi65]
            simp [xI_seq, xI_region, xI_ret, regA, regOps, runOps, opStep, wantedA, opA, evo, evos, calleeA, lk, nif_eq, putE, paramsE, valS, val2, keepE, restrict, finA, resA, binA, binInt, ofConst, ofConst1, loadA, TK.isAgg, asVar, unA, builtinA, lenOpA, lenA, ileb_cast, ileb_eq, ieqb_dec, indexAddrA, inB_dec, evPairs, storeA, AV.cellsOf, pairsOf, xI_nil, binBool, gcE, evOpt, xI_block, xI_loopH, xI_condM, xI_exitM, xI_skip, xI_blk, exitA, ty2, ty3, ty4, ty41, ty127, fieldAddrA, allOne, AV.one, n_push, ty2, ty33, ty38, ty41, ty3, ty127, hσ, hcp3, h, hi, hr, c1, hRd, hLd, hw, hs1, hw0]
          · rw [show ldI A.length rr = ((lead A.length rr : Nat) : Int) by simp [ldI, hl]] at hLd
            simp only [if_neg hl, pdV]
            have hl0 : (0 : Int) ≤ ((lead A.length rr : Nat) : Int) := by omega
            rw [fi65]
            simp [xI_seq, xI_region, xI_ret, regA, regOps, runOps, opStep, wantedA, opA, evo, evos, calleeA, lk, nif_eq, putE, paramsE, valS, val2, keepE, restrict, finA, resA, binA, binInt, ofConst, ofConst1, loadA, TK.isAgg, asVar, unA, builtinA, lenOpA, lenA, ileb_cast, ileb_eq, ieqb_dec, indexAddrA, inB_dec, evPairs, storeA, AV.cellsOf, pairsOf, xI_nil, binBool, gcE, evOpt, xI_block, xI_loopH, xI_condM, xI_exitM, xI_skip, xI_blk, exitA, ty2, ty3, ty4, ty41, ty127, fieldAddrA, allOne, AV.one, n_push, ty2, ty33, ty38, ty41, ty3, ty127, hσ, hcp3, h, hi, hr, c1, hRd, hLd, hw, hs1, hw0, hl0]

end Go.Proofs.Ytonnbgjbohbibaa
