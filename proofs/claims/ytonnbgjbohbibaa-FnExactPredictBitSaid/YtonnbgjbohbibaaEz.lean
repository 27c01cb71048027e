/- Contracts and laws: outputs told from what is seen. Nothing is claimed here; no condition. -/
import Derived.Test.YtonnbgjbohbibaaEy
namespace Go.Proofs.Ytonnbgjbohbibaa
open Go Go.Abs
set_option linter.unusedSimpArgs false
set_option linter.unusedVariables false
open Go.Wd
theorem can_more {w : Nat} (hw : w < 64) {es : List Nat} {x : Nat} (hb : ∀ e ∈ es, e < 2 ^ (w + 1)) (hx : ∀ e ∈ es ++ [x], e < 2 ^ (w + 1)) (h : can w es = false) : can w (es ++ [x]) = false := by
  rw [Bool.eq_false_iff] at h ⊢
  intro hc
  obtain ⟨X, h1, h2, h3⟩ := (can_iff hw hx).1 hc
  exact h ((can_iff hw hb).2 ⟨X, h1, h2, fun e he => h3 e (by simp [he])⟩)
theorem eqn_one (w m : Nat) : eqn w m 1 = m ||| 2 ^ w := by show m ||| 1 * 2 ^ w = _; rw [Nat.one_mul]
set_option maxHeartbeats 4000000 in
theorem v68 (w : Int) (R : List Int) (o : Int) (l : List (Int × Int)) (at_ : Int) (hs : R.length < 1000000000000) (hll : l.length < 1000000000000) : FnV TT 68 [.agg (lin w R o), .lst l.length (pairs l), .int .i64 at_] (pdV (pdB w R o l at_)) := by
  have hsc : ∀ r, (pdV r).scal = true := fun r => by cases r <;> rfl
  have hfz : ∀ r σ1, frzV σ1 frzDepth (pdV r) = some (pdV r) := fun r σ1 => by cases r <;> rfl
  refine FnV.mk fn68 rfl md68 ?_ (hfz _) (hsc _)
  obtain ⟨σ, hσ⟩ : ∃ σ, (⟨[], 0⟩ : St).push ⟨lin w R o, 3, false⟩ = σ := ⟨_, rfl⟩
  have hg : σ.get 0 = some ⟨lin w R o, 3, false⟩ := by subst hσ; rfl
  have hn1 : σ.n = 1 := by subst hσ; rfl
  have h := c83 w R o hs σ 0 _ hg rfl
  have hr := c88 at_ 0 10000 σ
  cases h1 : vlin w R o with
  | false =>
    rw [h1] at h
    rw [pdB_no (by rw [h1]; rfl), fi68]
    simp only [lin, pdV] at hσ ⊢
    simp [xI_seq, xI_region, xI_ret, regA, regOps, runOps, opStep, wantedA, opA, evo, evos, calleeA, lk, nif_eq, putE, paramsE, valS, val2, keepE, restrict, finA, resA, binA, binInt, ofConst, ofConst1, loadA, TK.isAgg, asVar, unA, builtinA, lenOpA, lenA, ileb_cast, ileb_eq, ieqb_dec, indexAddrA, inB_dec, evPairs, storeA, AV.cellsOf, pairsOf, xI_nil, binBool, gcE, evOpt, xI_block, xI_loopH, xI_condM, xI_exitM, xI_skip, xI_blk, exitA, ty2, ty4, ty33, ty41, ty73, ty76, fieldAddrA, allOne, AV.one, n_push, ty2, ty33, ty38, ty41, hσ, h]
  | true =>
    rw [h1] at h
    obtain ⟨A, k, rfl, rfl, rfl, h2, h3, h4, h5⟩ := vlin_nat2 h1
    cases hm : inR at_ 0 10000 with
    | false =>
      rw [hm] at hr
      rw [pdB_no (by rw [hm, Bool.and_false]), fi68]
      simp only [lin, pdV, nints_length] at hσ ⊢
      simp [xI_seq, xI_region, xI_ret, regA, regOps, runOps, opStep, wantedA, opA, evo, evos, calleeA, lk, nif_eq, putE, paramsE, valS, val2, keepE, restrict, finA, resA, binA, binInt, ofConst, ofConst1, loadA, TK.isAgg, asVar, unA, builtinA, lenOpA, lenA, ileb_cast, ileb_eq, ieqb_dec, indexAddrA, inB_dec, evPairs, storeA, AV.cellsOf, pairsOf, xI_nil, binBool, gcE, evOpt, xI_block, xI_loopH, xI_condM, xI_exitM, xI_skip, xI_blk, exitA, ty2, ty4, ty33, ty41, ty73, ty76, fieldAddrA, allOne, AV.one, n_push, ty2, ty33, ty38, ty41, hσ, h, hr]
    | true =>
      rw [hm] at hr
      have hm2 := inR_iff.1 hm
      obtain ⟨m, rfl⟩ : ∃ m : Nat, at_ = m := ⟨at_.toNat, by omega⟩
      cases hk : senOk l with
      | false =>
        obtain ⟨σ1, v1, c1⟩ := r118n A k h3 h4 h5 l hll hk 0 _ rfl σ hg (by omega)
        rw [pdB_no (by rw [hk, Bool.and_false]; rfl), fi68]
        simp only [lin, pdV, nints_length] at hσ ⊢
        simp [xI_seq, xI_region, xI_ret, regA, regOps, runOps, opStep, wantedA, opA, evo, evos, calleeA, lk, nif_eq, putE, paramsE, valS, val2, keepE, restrict, finA, resA, binA, binInt, ofConst, ofConst1, loadA, TK.isAgg, asVar, unA, builtinA, lenOpA, lenA, ileb_cast, ileb_eq, ieqb_dec, indexAddrA, inB_dec, evPairs, storeA, AV.cellsOf, pairsOf, xI_nil, binBool, gcE, evOpt, xI_block, xI_loopH, xI_condM, xI_exitM, xI_skip, xI_blk, exitA, ty2, ty4, ty33, ty41, ty73, ty76, fieldAddrA, allOne, AV.one, n_push, ty2, ty33, ty38, ty41, hσ, h, hr, c1]
      | true =>
        obtain ⟨S, rfl, hSl, hS⟩ := sen_ok hk
        obtain ⟨σ1, b1, c1, gp0, gn, gb, rr0⟩ := r118y A k h3 h4 h5 S hS hSl 0 _ rfl σ hg (by omega)
        have hsl := seqs_length A.length A k S
        have hlt := seqs_lt (w := A.length) h4 h5 hS
        have hmk := mk_lt h4 h5 m
        have hbl := rr0.lt
        obtain ⟨σ0a, co0, ro0, oo0, no0⟩ := own_row σ1 (.sl b1 0 S.length S.length) (seqs A.length A k S) (by omega) (IsL.of_row rr0 (by rw [nints_length, hsl]))
        rw [hsl] at co0
        have pa0 : σ0a.get 0 = some ⟨lin A.length (nints A) k, 3, false⟩ := (oo0.2 0 (by omega)).trans gp0
        obtain ⟨σ0b, ce0, oe0⟩ := c121 A k m 0 h3 h4 h5 (by omega) (by decide) σ0a 0 _ pa0 (by omega) rfl
        have pb0 : σ0b.get 0 = some ⟨lin A.length (nints A) k, 3, false⟩ := (oe0.2 0 (by omega)).trans pa0
        have hne0 := oe0.1
        obtain ⟨σ0c, ca0, rc0, nc0, uc0⟩ := nints_append_row (x := eqn A.length (mk A k m) 0) ty33 ty2 (ro0.old oe0) (n := S.length) hsl.symm (by omega)
        have pc0 : σ0c.get 0 = some ⟨lin A.length (nints A) k, 3, false⟩ := (uc0 0 (by omega) (by omega)).trans pb0
        have hz0 : ∀ e ∈ seqs A.length A k S ++ [eqn A.length (mk A k m) 0], e < 2 ^ (A.length + 1) := by
          intro e he
          rcases List.mem_append.1 he with he | he
          · exact hlt e he
          · rw [List.mem_singleton.1 he]; exact eqn_lt hmk (by decide)
        have cs0 : callI TT 119 [.sl (σ0b.n + 1) 0 (seqs A.length A k S ++ [eqn A.length (mk A k m) 0]).length (seqs A.length A k S ++ [eqn A.length (mk A k m) 0]).length, .int .u64 A.length] σ0c = some (.bool (can A.length (seqs A.length A k S ++ [eqn A.length (mk A k m) 0])), σ0c) := v119 A.length (by omega) _ (by simp [hsl]; omega) (fun e he => lt_w h3 (hz0 e he)) σ0c _ (row_frz rc0 _ rfl rfl)
        rw [show (seqs A.length A k S ++ [eqn A.length (mk A k m) 0]).length = S.length + 1 by simp [hsl]] at cs0
        have w00 : cellsAt σ1 (.ptr 0 0) 1 = some [.int .i64 A.length] := by simp [cellsAt, gp0, lin, getCells, takeN, dropN]
        have wa0 : cellsAt σ0a (.ptr 0 0) 1 = some [.int .i64 A.length] := by simp [cellsAt, pa0, lin, getCells, takeN, dropN]
        have wb0 : cellsAt σ0b (.ptr 0 0) 1 = some [.int .i64 A.length] := by simp [cellsAt, pb0, lin, getCells, takeN, dropN]
        have wp0 : ∀ x, cellsAt (σ0b.push x) (.ptr 0 0) 1 = some [.int .i64 A.length] := fun x => by simp [cellsAt, get_push_lt (show 0 < σ0b.n by omega), pb0, lin, getCells, takeN, dropN]
        have wc0 : cellsAt σ0c (.ptr 0 0) 1 = some [.int .i64 A.length] := by simp [cellsAt, pc0, lin, getCells, takeN, dropN]
        have rr1 : Row σ0c b1 (nints (seqs A.length A k S)) := ((rr0.old oo0).old oe0).keep (by omega) (uc0 b1 (by omega) (by omega))
        have gp1 := pc0
        obtain ⟨σ1a, co1, ro1, oo1, no1⟩ := own_row σ0c (.sl b1 0 S.length S.length) (seqs A.length A k S) (by omega) (IsL.of_row rr1 (by rw [nints_length, hsl]))
        rw [hsl] at co1
        have pa1 : σ1a.get 0 = some ⟨lin A.length (nints A) k, 3, false⟩ := (oo1.2 0 (by omega)).trans gp1
        obtain ⟨σ1b, ce1, oe1⟩ := c121 A k m 1 h3 h4 h5 (by omega) (by decide) σ1a 0 _ pa1 (by omega) rfl
        have pb1 : σ1b.get 0 = some ⟨lin A.length (nints A) k, 3, false⟩ := (oe1.2 0 (by omega)).trans pa1
        have hne1 := oe1.1
        obtain ⟨σ1c, ca1, rc1, nc1, uc1⟩ := nints_append_row (x := eqn A.length (mk A k m) 1) ty33 ty2 (ro1.old oe1) (n := S.length) hsl.symm (by omega)
        have pc1 : σ1c.get 0 = some ⟨lin A.length (nints A) k, 3, false⟩ := (uc1 0 (by omega) (by omega)).trans pb1
        have hz1 : ∀ e ∈ seqs A.length A k S ++ [eqn A.length (mk A k m) 1], e < 2 ^ (A.length + 1) := by
          intro e he
          rcases List.mem_append.1 he with he | he
          · exact hlt e he
          · rw [List.mem_singleton.1 he]; exact eqn_lt hmk (by decide)
        have cs1 : callI TT 119 [.sl (σ1b.n + 1) 0 (seqs A.length A k S ++ [eqn A.length (mk A k m) 1]).length (seqs A.length A k S ++ [eqn A.length (mk A k m) 1]).length, .int .u64 A.length] σ1c = some (.bool (can A.length (seqs A.length A k S ++ [eqn A.length (mk A k m) 1])), σ1c) := v119 A.length (by omega) _ (by simp [hsl]; omega) (fun e he => lt_w h3 (hz1 e he)) σ1c _ (row_frz rc1 _ rfl rfl)
        rw [show (seqs A.length A k S ++ [eqn A.length (mk A k m) 1]).length = S.length + 1 by simp [hsl]] at cs1
        have w01 : cellsAt σ0c (.ptr 0 0) 1 = some [.int .i64 A.length] := by simp [cellsAt, gp1, lin, getCells, takeN, dropN]
        have wa1 : cellsAt σ1a (.ptr 0 0) 1 = some [.int .i64 A.length] := by simp [cellsAt, pa1, lin, getCells, takeN, dropN]
        have wb1 : cellsAt σ1b (.ptr 0 0) 1 = some [.int .i64 A.length] := by simp [cellsAt, pb1, lin, getCells, takeN, dropN]
        have wp1 : ∀ x, cellsAt (σ1b.push x) (.ptr 0 0) 1 = some [.int .i64 A.length] := fun x => by simp [cellsAt, get_push_lt (show 0 < σ1b.n by omega), pb1, lin, getCells, takeN, dropN]
        have wc1 : cellsAt σ1c (.ptr 0 0) 1 = some [.int .i64 A.length] := by simp [cellsAt, pc1, lin, getCells, takeN, dropN]
        have u1 := n_wrapu (a := A.length) (by omega)
        have hcan := addAll_can (w := A.length) (by omega) hlt
        rw [pdB_yes (by rw [h1, hk, hm]; rfl)]
        rw [npairs_length]
        have hfin : ∀ (z0 z1 : Bool) (res : AV), can A.length (seqs A.length A k S ++ [eqn A.length (mk A k m) 0]) = z0 → can A.length (seqs A.length A k S ++ [eqn A.length (mk A k m) 1]) = z1 →
            res = (if z0 = z1 then .tup [.int .i64 0, .bool false] else if z1 = true then .tup [.int .i64 1, .bool true] else .tup [.int .i64 0, .bool true]) →
            ∃ σ', exI TT (FI.of Try.f68 (TT.an 68)) [.code (Try.f68.body.getD .skip)] (paramsE 0 [.agg (lin A.length (nints A) k), .lst S.length (pairs (npairs S)), .int .i64 m]) ⟨[], 0⟩ = some (res, σ') := by
          intro z0 z1 res e0 e1 hres
          rw [e0] at cs0
          rw [e1] at cs1
          rw [hres]
          simp only [show ((0 : Nat) : Int) = 0 from rfl, show ((1 : Nat) : Int) = 1 from rfl] at ce0 ce1
          generalize eqn A.length (mk A k m) 0 = q0 at *
          generalize eqn A.length (mk A k m) 1 = q1 at *
          rw [fi68]
          simp only [lin, nints_length] at hσ ⊢
          simp only [Try.f68, Option.getD]
          cases z0 <;> cases z1 <;> simp [xI_seq, xI_region, xI_ret, regA, regOps, runOps, opStep, wantedA, opA, evo, evos, calleeA, lk, nif_eq, putE, paramsE, valS, val2, keepE, restrict, finA, resA, binA, binInt, ofConst, ofConst1, loadA, TK.isAgg, asVar, unA, builtinA, lenOpA, lenA, ileb_cast, ileb_eq, ieqb_dec, indexAddrA, inB_dec, evPairs, storeA, AV.cellsOf, pairsOf, xI_nil, binBool, gcE, evOpt, xI_block, xI_loopH, xI_condM, xI_exitM, xI_skip, xI_blk, exitA, ty2, ty4, ty33, ty41, ty73, ty76, runTr, pairsOk, pairOk, lstAt, lastOf, sameVal, AV.eqv, eqvs, eqvs_ints, regOps, blt_dec, cond_true, cond_false, fieldAddrA, allOne, AV.one, n_push, ty2, ty33, ty38, ty41, ty76, ty73, convA, buildA, sizesOf, fillA, putCells, hσ, h, hr, c1, u1, bs1, co0, ce0, ca0, cs0, w00, wa0, wb0, wp0, wc0, co1, ce1, ca1, cs1, w01, wa1, wb1, wp1, wc1]
        cases ha : addAll A.length [] (seqs A.length A k S) with
        | none =>
          have hn := hcan.1 ha
          exact hfin false false _ (can_more (by omega) hlt hz0 hn) (can_more (by omega) hlt hz1 hn) rfl
        | some rows =>
          obtain ⟨_, _, hrw, hR, _⟩ := hcan.2 rows ha
          obtain ⟨pr1, pr2⟩ := predict (w := A.length) (by omega) hlt ha hmk
          have hmk2 : mk A k m < 2 ^ (A.length + 1) := Nat.lt_trans hmk (Nat.pow_lt_pow_right (by decide) (by omega))
          have hrlt := reduced_lt A.length rows (mk A k m) hR.ok hmk2
          have hlw := lead_le A.length (reduced A.length rows (mk A k m))
          simp only
          by_cases hl : lead A.length (reduced A.length rows (mk A k m)) = A.length
          · obtain ⟨q1, q2⟩ := pr2 hl
            have hq : shrN (reduced A.length rows (mk A k m)) A.length < 2 := by
              show _ / 2 ^ A.length < 2
              rw [Nat.div_lt_iff_lt_mul (Nat.pow_pos (by decide))]; rw [Nat.pow_succ] at hrlt; omega
            have hq' : reduced A.length rows (mk A k m) / 2 ^ A.length = shrN (reduced A.length rows (mk A k m)) A.length := rfl
            rw [hq'] at q1 q2
            simp only [if_pos hl]
            generalize shrN (reduced A.length rows (mk A k m)) A.length = z at *
            have hz : z = 0 ∨ z = 1 := by omega
            rcases hz with rfl | rfl
            · exact hfin true false _ (by rw [eqn_zero, q1]; rfl) (by rw [eqn_one, q2]; rfl) rfl
            · exact hfin false true _ (by rw [eqn_zero, q1]; rfl) (by rw [eqn_one, q2]; rfl) rfl
          · obtain ⟨q1, q2⟩ := pr1 (by omega)
            simp only [if_neg hl]
            exact hfin true true _ (by rw [eqn_zero, q1]) (by rw [eqn_one, q2]) rfl

end Go.Proofs.Ytonnbgjbohbibaa
