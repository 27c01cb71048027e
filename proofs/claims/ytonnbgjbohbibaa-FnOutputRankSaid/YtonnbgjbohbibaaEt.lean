/- Contracts and law: machines backwards. Nothing is claimed here; no condition. -/
import Derived.Test.YtonnbgjbohbibaaEs
import Derived.Test.YtonnbgjbohbibaaEh
namespace Go.Proofs.Ytonnbgjbohbibaa
open Go Go.Abs
set_option linter.unusedSimpArgs false
set_option linter.unusedVariables false
open Go.Wd
/-- The equations of the state before a state. -/
def eqF (w s : Nat) : Nat → List Nat → List Nat
  | _, [] => []
  | i, r :: rs => eqn w r (modN (shrN s i) 2) :: eqF w s (i + 1) rs
theorem eqF_length (w s : Nat) : ∀ (l : List Nat) (i : Nat), (eqF w s i l).length = l.length
  | [], _ => rfl
  | _ :: r, i => by simp [eqF, eqF_length w s r]
theorem eqF_append (w s : Nat) : ∀ (a : List Nat) (i : Nat) (r : Nat), eqF w s i (a ++ [r]) = eqF w s i a ++ [eqn w r (modN (shrN s (i + a.length)) 2)]
  | [], i, r => by simp [eqF]
  | x :: a, i, r => by simp only [List.cons_append, eqF, eqF_append w s a (i + 1) r]; simp; congr 3; omega
theorem mod_le (a : Nat) : modN a 2 ≤ 1 := by have : modN a 2 < 2 := Nat.mod_lt _ (by decide)
                                              omega
theorem eqF_lt {w s : Nat} : ∀ {l : List Nat} {i : Nat}, (∀ r ∈ l, r < 2 ^ w) → ∀ e ∈ eqF w s i l, e < 2 ^ (w + 1)
  | [], _, _, e, he => by simp [eqF] at he
  | r :: l, i, h, e, he => by
    simp only [eqF, List.mem_cons] at he
    rcases he with rfl | he
    · exact eqn_lt (h r (by simp)) (mod_le _)
    · exact eqF_lt (fun x hx => h x (by simp [hx])) e he
/-- The state before a state. -/
def bk (w : Int) (R : List Int) (o s : Int) : Option Nat := if vst w R o s = true then (match addAll R.length [] (eqF R.length s.toNat 0 (nats R)) with | some rows => if rows.length < R.length then none else some (least R.length rows) | none => none) else none
def bkV (w : Int) (R : List Int) (o s : Int) : Int := match bk w R o s with | some x => (x : Int) | none => 0
theorem bk_no {w : Int} {R : List Int} {o s : Int} (h : vst w R o s = false) : bk w R o s = none := by simp [bk, h]
theorem bk_yes {A : List Nat} {k t : Nat} (h : vst (A.length : Int) (nints A) k t = true) : bk (A.length : Int) (nints A) k t = (match addAll A.length [] (eqF A.length t 0 A) with | some rows => if rows.length < A.length then none else some (least A.length rows) | none => none) := by
  unfold bk; rw [if_pos h]; simp [nats_nints, nints_length]
theorem vst_nat2 {w : Int} {R : List Int} {o s : Int} (h : vst w R o s = true) : ∃ (A : List Nat) (k t : Nat), w = (A.length : Int) ∧ R = nints A ∧ o = (k : Int) ∧ s = (t : Int) ∧ 1 ≤ A.length ∧ A.length ≤ 16 ∧ (∀ r ∈ A, r < 2 ^ A.length) ∧ k < 2 ^ A.length ∧ t < 2 ^ A.length := by
  obtain ⟨A, k, t, h1, h2, h3, h4, h5, h6, h7, h8, h9⟩ := vst_nat h
  exact ⟨A, k, t, h1, h2, h3, h4, h5, h6, h7, h8, h9⟩

noncomputable def b61 : Code := Try.f61.body.getD .skip
noncomputable def B61_0 : Code := (bodyC (bodyC (sndC (fstC (sndC (sndC (sndC b61)))))))
noncomputable def K61_0 : List It := .lp B61_0 :: .blk 0 :: .code (sndC (sndC (sndC (sndC b61)))) :: []
theorem xl61_0 {fi : FI} {env : Env} {σ : St} : exI TT fi K61_0 env σ = exI TT fi (.code B61_0 :: K61_0) env σ := by unfold K61_0; exact xI_lp
noncomputable def R61_0_0 : List It := .code (sndC (sndC (sndC (sndC b61)))) :: []
theorem eK61_0_0 : exitA 0 K61_0 = some R61_0_0 := rfl
set_option maxHeartbeats 1000000 in
theorem l61 (A : List Nat) (k t : Nat) (h16 : A.length ≤ 16) (hA : ∀ r ∈ A, r < 2 ^ A.length) (ht : t < 65536) : ∀ (suf pre : List Nat) (σ : St) (b : Nat), A = pre ++ suf → 0 < b → σ.get 0 = some ⟨lin A.length (nints A) k, 3, false⟩ → 0 < σ.n → Row σ b (nints (eqF A.length t 0 pre)) →
    ∃ σ' b', exI TT (FI.of Try.f61 (TT.an 61)) K61_0 [(1, .int .i64 t), (2, .ptr 0 0), (6, .sl b 0 pre.length pre.length), (7, .int .i64 pre.length)] σ = exI TT (FI.of Try.f61 (TT.an 61)) R61_0_0 [(1, .int .i64 t), (2, .ptr 0 0), (6, .sl b' 0 A.length A.length), (7, .int .i64 A.length), (18, .bool false)] σ' ∧ σ'.get 0 = some ⟨lin A.length (nints A) k, 3, false⟩ ∧ Row σ' b' (nints (eqF A.length t 0 A)) := by
  intro suf
  induction suf with
  | nil =>
    intro pre σ b hp hb0 h0 hn hr
    have hp : A = pre := by simpa using hp
    subst hp
    have hcw : cellsAt σ (.ptr 0 0) 1 = some [.int .i64 A.length] := by simp [cellsAt, h0, lin, getCells, takeN, dropN]
    refine ⟨σ, b, ?_, h0, hr⟩
    rw [fi61]
    rw [xl61_0]
    simp only [B61_0, b61, Try.f61, Option.getD, fstC, sndC, bodyC, thnC, elsC]
    simp [xI_seq, xI_region, xI_ret, regA, regOps, runOps, opStep, wantedA, opA, evo, evos, calleeA, lk, nif_eq, putE, paramsE, valS, val2, keepE, restrict, finA, resA, binA, binInt, ofConst, ofConst1, loadA, TK.isAgg, asVar, unA, builtinA, lenOpA, lenA, ileb_cast, ileb_eq, ieqb_dec, indexAddrA, inB_dec, evPairs, storeA, AV.cellsOf, pairsOf, xI_nil, binBool, gcE, evOpt, xI_block, xI_loopH, xI_condM, xI_exitM, xI_skip, xI_blk, exitA, ty2, ty4, ty33, ty41, ty73, eK61_0_0, fieldAddrA, allOne, AV.one, n_push, ty2, ty33, ty38, ty41, hcw]
  | cons r suf ih =>
    intro pre σ b hp hb0 h0 hn hr
    have hll : A.length = pre.length + (suf.length + 1) := by rw [hp]; simp
    have hrb := hA r (by simp [hp])
    have hw16 : 2 ^ A.length ≤ 65536 := pw_16 h16
    have hcw : cellsAt σ (.ptr 0 0) 1 = some [.int .i64 A.length] := by simp [cellsAt, h0, lin, getCells, takeN, dropN]
    have hcr : cellsAt σ (.ptr 0 1) 1 = some [.lst A.length (ints (nints A))] := by simp [cellsAt, h0, lin, getCells, takeN, dropN, nints_length]
    have hg : (nints A)[pre.length]? = some (r : Int) := nints_get (by simp [hp])
    have hrd : ∀ σ, cellsAt σ (.lp (ints (nints A)) pre.length) 1 = some [.int .i64 r] := fun σ => lst_read hg
    obtain ⟨σ1, ha, hr1, hn1, hu1⟩ := nints_append_row (x := eqn A.length r (modN (shrN t pre.length) 2)) ty33 ty2 hr (n := pre.length) (eqF_length _ _ _ _).symm (by omega)
    rw [show eqF A.length t 0 pre ++ [eqn A.length r (modN (shrN t pre.length) 2)] = eqF A.length t 0 (pre ++ [r]) by rw [eqF_append, Nat.zero_add]] at hr1
    obtain ⟨σ', b', h1, h2, h3⟩ := ih (pre ++ [r]) σ1 (σ.n + 1) (by simp [hp]) (by omega) ((hu1 0 (by omega) hn).trans h0) (by omega) hr1
    refine ⟨σ', b', ?_, h2, h3⟩
    have hlt : ¬ A.length ≤ pre.length := by omega
    have hlt2 : pre.length < A.length := by omega
    have hw1 := wrapS (n := pre.length) (by omega)
    have u1 := n_wrapu (a := pre.length) (by omega)
    have u2 := n_wrapu (a := A.length) (by omega)
    have s1 := sh_r (a := t) (b := pre.length) (by omega)
    have hsl : shrN t pre.length ≤ t := Nat.div_le_self _ _
    have s2 := n_and1 (a := shrN t pre.length) (by omega)
    have hm := mod_le (shrN t pre.length)
    have hml : modN (shrN t pre.length) 2 * 2 ^ A.length ≤ 1 * 65536 := Nat.mul_le_mul hm hw16
    have s3 := sh_l (a := modN (shrN t pre.length) 2) (b := A.length) (by omega) (by omega)
    have s4 := n_or (a := r) (b := shlN (modN (shrN t pre.length) 2) A.length) (by omega) (by show _ * 2 ^ A.length ≤ _; omega)
    have s5 : orN r (shlN (modN (shrN t pre.length) 2) A.length) = eqn A.length r (modN (shrN t pre.length) 2) := rfl
    rw [s5] at s4
    simp only [show (pre ++ [r]).length = pre.length + 1 by simp] at h1
    generalize eqn A.length r (modN (shrN t pre.length) 2) = z at *
    rw [fi61] at h1 ⊢
    rw [xl61_0]
    simp only [B61_0, b61, Try.f61, Option.getD, fstC, sndC, bodyC, thnC, elsC]
    simp [xI_seq, xI_region, xI_ret, regA, regOps, runOps, opStep, wantedA, opA, evo, evos, calleeA, lk, nif_eq, putE, paramsE, valS, val2, keepE, restrict, finA, resA, binA, binInt, ofConst, ofConst1, loadA, TK.isAgg, asVar, unA, builtinA, lenOpA, lenA, ileb_cast, ileb_eq, ieqb_dec, indexAddrA, inB_dec, evPairs, storeA, AV.cellsOf, pairsOf, xI_nil, binBool, gcE, evOpt, xI_block, xI_loopH, xI_condM, xI_exitM, xI_skip, xI_blk, exitA, ty2, ty4, ty33, ty41, ty73, eK61_0_0, runTr, pairsOk, pairOk, lstAt, lastOf, sameVal, AV.eqv, eqvs, eqvs_ints, regOps, blt_dec, cond_true, cond_false, fieldAddrA, allOne, AV.one, n_push, ty2, ty33, ty38, ty41, hcw, hcr, hrd, hlt, hlt2, hw1, u1, u2, s1, s2, s3, s4, convA, ty73, bs1, ha]
    simpa using h1
theorem v61 (w : Int) (R : List Int) (o s : Int) (hs : R.length < 1000000000000) : FnV TT 61 [.agg (lin w R o), .int .i64 s] (.tup [.int .i64 (bkV w R o s), .bool (bk w R o s).isSome]) := by
  refine FnV.mk fn61 rfl md61 ?_ (fun _ => rfl) rfl
  obtain ⟨σ, hσ⟩ : ∃ σ, (⟨[], 0⟩ : St).push ⟨lin w R o, 3, false⟩ = σ := ⟨_, rfl⟩
  have hg : σ.get 0 = some ⟨lin w R o, 3, false⟩ := by subst hσ; rfl
  have hn1 : σ.n = 1 := by subst hσ; rfl
  have h := c96 w R o s hs σ 0 _ hg rfl
  cases h1 : vst w R o s with
  | false =>
    rw [h1] at h
    rw [show bkV w R o s = 0 by simp [bkV, bk_no h1], bk_no h1, fi61]
    simp only [lin] at hσ ⊢
    simp [xI_seq, xI_region, xI_ret, regA, regOps, runOps, opStep, wantedA, opA, evo, evos, calleeA, lk, nif_eq, putE, paramsE, valS, val2, keepE, restrict, finA, resA, binA, binInt, ofConst, ofConst1, loadA, TK.isAgg, asVar, unA, builtinA, lenOpA, lenA, ileb_cast, ileb_eq, ieqb_dec, indexAddrA, inB_dec, evPairs, storeA, AV.cellsOf, pairsOf, xI_nil, binBool, gcE, evOpt, xI_block, xI_loopH, xI_condM, xI_exitM, xI_skip, xI_blk, exitA, ty2, ty4, ty33, ty41, ty73, eK61_0_0, fieldAddrA, allOne, AV.one, n_push, ty2, ty33, ty38, ty41, hσ, h]
  | true =>
    rw [h1] at h
    obtain ⟨A, k, t, rfl, rfl, rfl, rfl, h2, h3, h4, h5, h6⟩ := vst_nat2 h1
    have hw16 : 2 ^ A.length ≤ 65536 := pw_16 h3
    obtain ⟨σ', b', e1, e2, e3⟩ := l61 A k t h3 h4 (by omega) A [] (σ.push ⟨ints [], 1, false⟩) σ.n rfl (by omega) (by rw [get_push_lt (by omega)]; exact hg) (by rw [n_push]; omega) Row.push
    simp only [List.length_nil, Int.natCast_zero, show ((0 : Nat) : Int) = 0 from rfl] at e1
    have hcw : cellsAt σ' (.ptr 0 0) 1 = some [.int .i64 A.length] := by simp [cellsAt, e2, lin, getCells, takeN, dropN]
    have hel := eqF_length A.length t A 0
    have hlt := eqF_lt (s := t) (i := 0) h4
    have fz := row_frz e3 (.int .i64 (A.length : Int)) rfl rfl
    have cL := v110 A.length h3 (eqF A.length t 0 A) (by omega) hlt σ' _ fz
    rw [hel] at cL
    have hcan := addAll_can (w := A.length) (by omega) hlt
    have hbk := bk_yes h1
    simp only [lin, nints_length] at hσ ⊢
    cases ha : addAll A.length [] (eqF A.length t 0 A) with
    | none =>
      rw [ha] at hbk
      rw [hcan.1 ha] at cL
      rw [show bkV (A.length : Int) (nints A) k t = 0 by simp [bkV, hbk], hbk]
      simp only [Bool.false_eq_true, if_false] at cL
      rw [fi61] at e1 ⊢
      simp [xI_seq, xI_region, xI_ret, regA, regOps, runOps, opStep, wantedA, opA, evo, evos, calleeA, lk, nif_eq, putE, paramsE, valS, val2, keepE, restrict, finA, resA, binA, binInt, ofConst, ofConst1, loadA, TK.isAgg, asVar, unA, builtinA, lenOpA, lenA, ileb_cast, ileb_eq, ieqb_dec, indexAddrA, inB_dec, evPairs, storeA, AV.cellsOf, pairsOf, xI_nil, binBool, gcE, evOpt, xI_block, xI_loopH, xI_condM, xI_exitM, xI_skip, xI_blk, exitA, ty2, ty4, ty33, ty41, ty73, eK61_0_0, fieldAddrA, allOne, AV.one, n_push, ty2, ty33, ty38, ty41, hσ, h, bn0]
      refine ⟨σ', e1.trans ?_⟩
      simp only [R61_0_0, b61, Try.f61, Option.getD, fstC, sndC, bodyC, thnC, elsC]
      simp [xI_seq, xI_region, xI_ret, regA, regOps, runOps, opStep, wantedA, opA, evo, evos, calleeA, lk, nif_eq, putE, paramsE, valS, val2, keepE, restrict, finA, resA, binA, binInt, ofConst, ofConst1, loadA, TK.isAgg, asVar, unA, builtinA, lenOpA, lenA, ileb_cast, ileb_eq, ieqb_dec, indexAddrA, inB_dec, evPairs, storeA, AV.cellsOf, pairsOf, xI_nil, binBool, gcE, evOpt, xI_block, xI_loopH, xI_condM, xI_exitM, xI_skip, xI_blk, exitA, ty2, ty4, ty33, ty41, ty73, eK61_0_0, fieldAddrA, allOne, AV.one, n_push, ty2, ty33, ty38, ty41, hcw, cL]
    | some rows =>
      rw [ha] at hbk
      obtain ⟨g1, g2, g3, _⟩ := hcan.2 rows ha
      rw [g1, g2] at cL
      simp only [if_true] at cL
      simp only at hbk
      by_cases hr : rows.length < A.length
      · rw [if_pos hr] at hbk
        rw [show bkV (A.length : Int) (nints A) k t = 0 by simp [bkV, hbk], hbk]
        have hpos : 0 < A.length - rows.length := by omega
        rw [fi61] at e1 ⊢
        generalize A.length - rows.length = z at *
        simp [xI_seq, xI_region, xI_ret, regA, regOps, runOps, opStep, wantedA, opA, evo, evos, calleeA, lk, nif_eq, putE, paramsE, valS, val2, keepE, restrict, finA, resA, binA, binInt, ofConst, ofConst1, loadA, TK.isAgg, asVar, unA, builtinA, lenOpA, lenA, ileb_cast, ileb_eq, ieqb_dec, indexAddrA, inB_dec, evPairs, storeA, AV.cellsOf, pairsOf, xI_nil, binBool, gcE, evOpt, xI_block, xI_loopH, xI_condM, xI_exitM, xI_skip, xI_blk, exitA, ty2, ty4, ty33, ty41, ty73, eK61_0_0, fieldAddrA, allOne, AV.one, n_push, ty2, ty33, ty38, ty41, hσ, h, bn0]
        refine ⟨σ', e1.trans ?_⟩
        simp only [R61_0_0, b61, Try.f61, Option.getD, fstC, sndC, bodyC, thnC, elsC]
        simp [xI_seq, xI_region, xI_ret, regA, regOps, runOps, opStep, wantedA, opA, evo, evos, calleeA, lk, nif_eq, putE, paramsE, valS, val2, keepE, restrict, finA, resA, binA, binInt, ofConst, ofConst1, loadA, TK.isAgg, asVar, unA, builtinA, lenOpA, lenA, ileb_cast, ileb_eq, ieqb_dec, indexAddrA, inB_dec, evPairs, storeA, AV.cellsOf, pairsOf, xI_nil, binBool, gcE, evOpt, xI_block, xI_loopH, xI_condM, xI_exitM, xI_skip, xI_blk, exitA, ty2, ty4, ty33, ty41, ty73, eK61_0_0, fieldAddrA, allOne, AV.one, n_push, ty2, ty33, ty38, ty41, hcw, cL, hpos]
        omega
      · rw [if_neg hr] at hbk
        rw [show bkV (A.length : Int) (nints A) k t = (least A.length rows : Nat) by simp [bkV, hbk], hbk]
        have hz : A.length - rows.length = 0 := by omega
        rw [hz] at cL
        simp only [show ((0 : Nat) : Int) = 0 from rfl] at cL
        rw [fi61] at e1 ⊢
        simp [xI_seq, xI_region, xI_ret, regA, regOps, runOps, opStep, wantedA, opA, evo, evos, calleeA, lk, nif_eq, putE, paramsE, valS, val2, keepE, restrict, finA, resA, binA, binInt, ofConst, ofConst1, loadA, TK.isAgg, asVar, unA, builtinA, lenOpA, lenA, ileb_cast, ileb_eq, ieqb_dec, indexAddrA, inB_dec, evPairs, storeA, AV.cellsOf, pairsOf, xI_nil, binBool, gcE, evOpt, xI_block, xI_loopH, xI_condM, xI_exitM, xI_skip, xI_blk, exitA, ty2, ty4, ty33, ty41, ty73, eK61_0_0, fieldAddrA, allOne, AV.one, n_push, ty2, ty33, ty38, ty41, hσ, h, bn0]
        refine ⟨σ', e1.trans ?_⟩
        simp only [R61_0_0, b61, Try.f61, Option.getD, fstC, sndC, bodyC, thnC, elsC]
        simp [xI_seq, xI_region, xI_ret, regA, regOps, runOps, opStep, wantedA, opA, evo, evos, calleeA, lk, nif_eq, putE, paramsE, valS, val2, keepE, restrict, finA, resA, binA, binInt, ofConst, ofConst1, loadA, TK.isAgg, asVar, unA, builtinA, lenOpA, lenA, ileb_cast, ileb_eq, ieqb_dec, indexAddrA, inB_dec, evPairs, storeA, AV.cellsOf, pairsOf, xI_nil, binBool, gcE, evOpt, xI_block, xI_loopH, xI_condM, xI_exitM, xI_skip, xI_blk, exitA, ty2, ty4, ty33, ty41, ty73, eK61_0_0, fieldAddrA, allOne, AV.one, n_push, ty2, ty33, ty38, ty41, hcw, cL]

noncomputable def b62 : Code := Try.f62.body.getD .skip
noncomputable def B62_0 : Code := (bodyC (bodyC (sndC (fstC (sndC (sndC (sndC b62)))))))
noncomputable def K62_0 : List It := .lp B62_0 :: .blk 0 :: .code (sndC (sndC (sndC (sndC b62)))) :: []
theorem xl62_0 {fi : FI} {env : Env} {σ : St} : exI TT fi K62_0 env σ = exI TT fi (.code B62_0 :: K62_0) env σ := by unfold K62_0; exact xI_lp
noncomputable def R62_0_0 : List It := .code (sndC (sndC (sndC (sndC b62)))) :: []
theorem eK62_0_0 : exitA 0 K62_0 = some R62_0_0 := rfl
theorem addAll_cons {w : Nat} {rows es : List Nat} {e : Nat} : addAll w rows (e :: es) = (match add w rows e with | none => none | some rows' => addAll w rows' es) := rfl
set_option maxHeartbeats 1000000 in
theorem l62 (A : List Nat) (k t : Nat) (h16 : A.length ≤ 16) (hA : ∀ r ∈ A, r < 2 ^ A.length) (ht : t < 65536) : ∀ (suf pre : List Nat) (σ : St) (rows : List Nat) (v : AV), A = pre ++ suf → σ.get 0 = some ⟨lin A.length (nints A) k, 3, false⟩ → ES σ 1 1 A.length rows v → Red A.length rows → rows.length ≤ pre.length →
    ∃ σ', exI TT (FI.of Try.f62 (TT.an 62)) K62_0 [(1, .int .i64 t), (2, .ptr 0 0), (6, .ptr 1 0), (18, .lst A.length (ints (nints A))), (19, .int .i64 A.length), (20, .int .i64 pre.length)] σ =
      some (match (match addAll A.length rows (eqF A.length t pre.length suf) with | some rows => if rows.length < A.length then none else some (least A.length rows) | none => none) with | some x => .tup [.int .i64 (x : Nat), .bool true] | none => .tup [.int .i64 0, .bool false], σ') := by
  intro suf
  induction suf with
  | nil =>
    intro pre σ rows v hp h0 hE hR hlen
    have hp : A = pre := by simpa using hp
    subst hp
    refine ⟨σ, ?_⟩
    have hcw : cellsAt σ (.ptr 0 0) 1 = some [.int .i64 A.length] := by simp [cellsAt, h0, lin, getCells, takeN, dropN]
    have hv := hE.v
    have hL : callI TT 81 [v] σ = some (.int .i64 rows.length, σ) := by
      obtain ⟨_, _, _, h4⟩ := hE
      rcases h4 with ⟨rfl, rfl⟩ | ⟨b, _, _, rfl, hr⟩
      · exact v81n σ [.nilS] rfl
      · exact v81 (nints rows) rows.length σ _ (mapO_cons (hr.frz (d := 4) (nints_length _).symm (Nat.le_refl _)) rfl)
    have hqv : v.eqv v = true := by
      obtain ⟨_, _, _, h4⟩ := hE
      rcases h4 with ⟨rfl, _⟩ | ⟨b, _, _, rfl, _⟩ <;> simp [AV.eqv]
    have hLS := c111 A.length h16 σ 1 1 rows v hE hR.ok (by omega)
    rw [show addAll A.length rows (eqF A.length t A.length []) = some rows from rfl]
    simp only
    by_cases hr : rows.length < A.length
    · rw [if_pos hr]
      have hr2 : ¬ A.length ≤ rows.length := by omega
      rw [fi62]
      rw [xl62_0]
      simp only [B62_0, b62, Try.f62, Option.getD, fstC, sndC, bodyC, thnC, elsC]
      simp [xI_seq, xI_region, xI_ret, regA, regOps, runOps, opStep, wantedA, opA, evo, evos, calleeA, lk, nif_eq, putE, paramsE, valS, val2, keepE, restrict, finA, resA, binA, binInt, ofConst, ofConst1, loadA, TK.isAgg, asVar, unA, builtinA, lenOpA, lenA, ileb_cast, ileb_eq, ieqb_dec, indexAddrA, inB_dec, evPairs, storeA, AV.cellsOf, pairsOf, xI_nil, binBool, gcE, evOpt, xI_block, xI_loopH, xI_condM, xI_exitM, xI_skip, xI_blk, exitA, ty2, ty3, ty4, ty33, ty41, ty127, eK62_0_0]
      simp only [R62_0_0, b62, Try.f62, Option.getD, fstC, sndC, bodyC, thnC, elsC]
      simp [xI_seq, xI_region, xI_ret, regA, regOps, runOps, opStep, wantedA, opA, evo, evos, calleeA, lk, nif_eq, putE, paramsE, valS, val2, keepE, restrict, finA, resA, binA, binInt, ofConst, ofConst1, loadA, TK.isAgg, asVar, unA, builtinA, lenOpA, lenA, ileb_cast, ileb_eq, ieqb_dec, indexAddrA, inB_dec, evPairs, storeA, AV.cellsOf, pairsOf, xI_nil, binBool, gcE, evOpt, xI_block, xI_loopH, xI_condM, xI_exitM, xI_skip, xI_blk, exitA, ty2, ty3, ty4, ty33, ty41, ty127, eK62_0_0, runTr, pairsOk, pairOk, lstAt, lastOf, sameVal, AV.eqv, eqvs, eqvs_ints, regOps, blt_dec, cond_true, cond_false, fieldAddrA, ty2, ty3, ty33, ty41, ty127, hcw, hv, hL, hr, hr2]
    · rw [if_neg hr]
      have hr2 : A.length ≤ rows.length := by omega
      rw [fi62]
      rw [xl62_0]
      simp only [B62_0, b62, Try.f62, Option.getD, fstC, sndC, bodyC, thnC, elsC]
      simp [xI_seq, xI_region, xI_ret, regA, regOps, runOps, opStep, wantedA, opA, evo, evos, calleeA, lk, nif_eq, putE, paramsE, valS, val2, keepE, restrict, finA, resA, binA, binInt, ofConst, ofConst1, loadA, TK.isAgg, asVar, unA, builtinA, lenOpA, lenA, ileb_cast, ileb_eq, ieqb_dec, indexAddrA, inB_dec, evPairs, storeA, AV.cellsOf, pairsOf, xI_nil, binBool, gcE, evOpt, xI_block, xI_loopH, xI_condM, xI_exitM, xI_skip, xI_blk, exitA, ty2, ty3, ty4, ty33, ty41, ty127, eK62_0_0]
      simp only [R62_0_0, b62, Try.f62, Option.getD, fstC, sndC, bodyC, thnC, elsC]
      simp [xI_seq, xI_region, xI_ret, regA, regOps, runOps, opStep, wantedA, opA, evo, evos, calleeA, lk, nif_eq, putE, paramsE, valS, val2, keepE, restrict, finA, resA, binA, binInt, ofConst, ofConst1, loadA, TK.isAgg, asVar, unA, builtinA, lenOpA, lenA, ileb_cast, ileb_eq, ieqb_dec, indexAddrA, inB_dec, evPairs, storeA, AV.cellsOf, pairsOf, xI_nil, binBool, gcE, evOpt, xI_block, xI_loopH, xI_condM, xI_exitM, xI_skip, xI_blk, exitA, ty2, ty3, ty4, ty33, ty41, ty127, eK62_0_0, runTr, pairsOk, pairOk, lstAt, lastOf, sameVal, AV.eqv, eqvs, eqvs_ints, regOps, blt_dec, cond_true, cond_false, fieldAddrA, ty2, ty3, ty33, ty41, ty127, hcw, hv, hL, hr, hr2, hLS]
  | cons r suf ih =>
    intro pre σ rows v hp h0 hE hR hlen
    have hll : A.length = pre.length + (suf.length + 1) := by rw [hp]; simp
    have hrb := hA r (by simp [hp])
    have hw16 : 2 ^ A.length ≤ 65536 := pw_16 h16
    have hg : (nints A)[pre.length]? = some (r : Int) := nints_get (by simp [hp])
    have hrd : ∀ σ, cellsAt σ (.lp (ints (nints A)) pre.length) 1 = some [.int .i64 r] := fun σ => lst_read hg
    have hlt : ¬ A.length ≤ pre.length := by omega
    have hlt2 : pre.length < A.length := by omega
    have hw1 := wrapS (n := pre.length) (by omega)
    have s1 := sh_r (a := t) (b := pre.length) (by omega)
    have hsl : shrN t pre.length ≤ t := Nat.div_le_self _ _
    have s2 := n_and1 (a := shrN t pre.length) (by omega)
    have hm := mod_le (shrN t pre.length)
    have hp0 : ¬ ((pre.length : Int) < 0) := by omega
    rw [show eqF A.length t pre.length (r :: suf) = eqn A.length r (modN (shrN t pre.length) 2) :: eqF A.length t (pre.length + 1) suf from rfl, addAll_cons]
    cases ha : add A.length rows (eqn A.length r (modN (shrN t pre.length) 2)) with
    | none =>
      have hC := c107n A.length h16 1 1 rows v σ hE hR.ok (by omega) r _ hrb hm ha
      refine ⟨σ, ?_⟩
      simp only
      rw [fi62]
      rw [xl62_0]
      simp only [B62_0, b62, Try.f62, Option.getD, fstC, sndC, bodyC, thnC, elsC]
      simp [xI_seq, xI_region, xI_ret, regA, regOps, runOps, opStep, wantedA, opA, evo, evos, calleeA, lk, nif_eq, putE, paramsE, valS, val2, keepE, restrict, finA, resA, binA, binInt, ofConst, ofConst1, loadA, TK.isAgg, asVar, unA, builtinA, lenOpA, lenA, ileb_cast, ileb_eq, ieqb_dec, indexAddrA, inB_dec, evPairs, storeA, AV.cellsOf, pairsOf, xI_nil, binBool, gcE, evOpt, xI_block, xI_loopH, xI_condM, xI_exitM, xI_skip, xI_blk, exitA, ty2, ty3, ty4, ty33, ty41, ty127, eK62_0_0, fieldAddrA, ty2, ty3, ty33, ty41, ty127, hrd, hlt, hlt2, hw1, s1, s2, hp0, hC]
    | some rows' =>
      obtain ⟨σ1, v1, hC, hE1, hn1, hu1⟩ := c107y A.length h16 1 1 rows rows' v σ hE hR.ok (by omega) r _ hrb hm ha
      have hR1 : Red A.length rows' := (addAll_some [eqn A.length r (modN (shrN t pre.length) 2)] rows rows' hR (by simpa using eqn_lt hrb hm) (by simp [addAll, ha])).1
      have hlen1 : rows'.length ≤ (pre ++ [r]).length := by
        rw [add_eq] at ha
        split at ha
        · split at ha
          · cases ha; simp; omega
          · cases ha
        · cases ha; simp; omega
      obtain ⟨σ', h1⟩ := ih (pre ++ [r]) σ1 rows' v1 (by simp [hp]) ((hu1 0 (by decide) (by decide)).trans h0) hE1 hR1 hlen1
      refine ⟨σ', ?_⟩
      simp only [show (pre ++ [r]).length = pre.length + 1 by simp] at h1
      simp only
      generalize (match (match addAll A.length rows' (eqF A.length t (pre.length + 1) suf) with | some rows => if rows.length < A.length then none else some (least A.length rows) | none => none) with | some x => AV.tup [.int .i64 (x : Nat), .bool true] | none => .tup [.int .i64 0, .bool false]) = res at *
      rw [fi62] at h1 ⊢
      rw [xl62_0]
      simp only [B62_0, b62, Try.f62, Option.getD, fstC, sndC, bodyC, thnC, elsC]
      simp [xI_seq, xI_region, xI_ret, regA, regOps, runOps, opStep, wantedA, opA, evo, evos, calleeA, lk, nif_eq, putE, paramsE, valS, val2, keepE, restrict, finA, resA, binA, binInt, ofConst, ofConst1, loadA, TK.isAgg, asVar, unA, builtinA, lenOpA, lenA, ileb_cast, ileb_eq, ieqb_dec, indexAddrA, inB_dec, evPairs, storeA, AV.cellsOf, pairsOf, xI_nil, binBool, gcE, evOpt, xI_block, xI_loopH, xI_condM, xI_exitM, xI_skip, xI_blk, exitA, ty2, ty3, ty4, ty33, ty41, ty127, eK62_0_0, fieldAddrA, ty2, ty3, ty33, ty41, ty127, hrd, hlt, hlt2, hw1, s1, s2, hp0, hC]
      simpa using h1
theorem v62 (w : Int) (R : List Int) (o s : Int) (hs : R.length < 3000000) : FnV TT 62 [.agg (lin w R o), .int .i64 s] (.tup [.int .i64 (bkV w R o s), .bool (bk w R o s).isSome]) := by
  refine FnV.mk fn62 rfl md62 ?_ (fun _ => rfl) rfl
  obtain ⟨σ, hσ⟩ : ∃ σ, (⟨[], 0⟩ : St).push ⟨lin w R o, 3, false⟩ = σ := ⟨_, rfl⟩
  have hg : σ.get 0 = some ⟨lin w R o, 3, false⟩ := by subst hσ; rfl
  have hn1 : σ.n = 1 := by subst hσ; rfl
  have hcp3 : cellsAt σ (.ptr 0 0) 3 = some [.int .i64 w, .lst R.length (ints R), .int .i64 o] := by subst hσ; rfl
  have h : callI TT 98 [.agg [.int .i64 w, .lst R.length (ints R), .int .i64 o], .int .i64 s] σ = some (.bool (vst w R o s), σ) := v98 w R o s hs σ _ rfl
  cases h1 : vst w R o s with
  | false =>
    rw [h1] at h
    rw [show bkV w R o s = 0 by simp [bkV, bk_no h1], bk_no h1, fi62]
    simp only [lin] at hσ ⊢
    simp [xI_seq, xI_region, xI_ret, regA, regOps, runOps, opStep, wantedA, opA, evo, evos, calleeA, lk, nif_eq, putE, paramsE, valS, val2, keepE, restrict, finA, resA, binA, binInt, ofConst, ofConst1, loadA, TK.isAgg, asVar, unA, builtinA, lenOpA, lenA, ileb_cast, ileb_eq, ieqb_dec, indexAddrA, inB_dec, evPairs, storeA, AV.cellsOf, pairsOf, xI_nil, binBool, gcE, evOpt, xI_block, xI_loopH, xI_condM, xI_exitM, xI_skip, xI_blk, exitA, ty2, ty3, ty4, ty33, ty41, ty127, eK62_0_0, fieldAddrA, allOne, AV.one, n_push, ty2, ty33, ty38, ty41, hσ, hcp3, h]
  | true =>
    rw [h1] at h
    obtain ⟨A, k, t, rfl, rfl, rfl, rfl, h2, h3, h4, h5, h6⟩ := vst_nat2 h1
    have hw16 : 2 ^ A.length ≤ 65536 := pw_16 h3
    obtain ⟨σ1, hσ1⟩ : ∃ σ1, σ.push ⟨[.int .i64 A.length, .nilS], 2, false⟩ = σ1 := ⟨_, rfl⟩
    have hE : ES σ1 1 1 A.length [] .nilS := by
      subst hσ1
      exact ⟨by rw [n_push]; omega, by rw [n_push]; omega, by rw [← hn1]; exact get_push_same, .inl ⟨rfl, rfl⟩⟩
    have hg1 : σ1.get 0 = some ⟨lin A.length (nints A) k, 3, false⟩ := by subst hσ1; rw [get_push_lt (by omega)]; exact hg
    obtain ⟨σ', e1⟩ := l62 A k t h3 h4 (by omega) A [] σ1 [] .nilS rfl hg1 hE (red_nil _) (Nat.le_refl _)
    simp only [List.length_nil, Int.natCast_zero, show ((0 : Nat) : Int) = 0 from rfl] at e1
    have hc0 : cellsAt σ (.ptr 0 0) 1 = some [.int .i64 A.length] := by simp [cellsAt, hg, lin, getCells, takeN, dropN]
    have hc1 : cellsAt σ1 (.ptr 0 1) 1 = some [.lst A.length (ints (nints A))] := by simp [cellsAt, hg1, lin, getCells, takeN, dropN, nints_length]
    have hbk := bk_yes h1
    rw [← hbk] at e1
    have hwi : wrapA .i64 ((A.length : Nat) : Int) = ((A.length : Nat) : Int) := n_wrap (by omega)
    rw [show (AV.tup [.int .i64 (bkV (A.length : Int) (nints A) k t), .bool (bk (A.length : Int) (nints A) k t).isSome]) = (match bk (A.length : Int) (nints A) k t with | some x => AV.tup [.int .i64 (x : Nat), .bool true] | none => .tup [.int .i64 0, .bool false]) by unfold bkV; cases bk (A.length : Int) (nints A) k t <;> rfl]
    refine ⟨σ', ?_⟩
    rw [← e1, fi62]
    simp only [nints_length] at hcp3 h
    simp only [lin, nints_length] at hσ ⊢
    simp [xI_seq, xI_region, xI_ret, regA, regOps, runOps, opStep, wantedA, opA, evo, evos, calleeA, lk, nif_eq, putE, paramsE, valS, val2, keepE, restrict, finA, resA, binA, binInt, ofConst, ofConst1, loadA, TK.isAgg, asVar, unA, builtinA, lenOpA, lenA, ileb_cast, ileb_eq, ieqb_dec, indexAddrA, inB_dec, evPairs, storeA, AV.cellsOf, pairsOf, xI_nil, binBool, gcE, evOpt, xI_block, xI_loopH, xI_condM, xI_exitM, xI_skip, xI_blk, exitA, ty2, ty3, ty4, ty33, ty41, ty127, eK62_0_0, fieldAddrA, allOne, AV.one, n_push, ty2, ty33, ty38, ty41, ty3, ty127, buildA, sizesOf, fillA, putCells, hσ, hn1, hσ1, hcp3, hc0, hc1, h, hwi]
    rfl

set_option maxHeartbeats 1000000 in
theorem w16 (w : Int) (l : List Int) (o : Int) (s : Int) (hn0 : l.length ≤ 9223372036854775807) : FnV TT 16 [.agg (lin w l o), .int .i64 s] (.bool true) := by
  refine FnV.mk fn16 rfl md16 ?_ (fun _ => rfl) rfl
  rw [fi16]
  have hsz : ∀ σ : St, callI TT 30 [.agg (lin w l o), .int .i64 1048576] σ = some (.int .i64 (if l.length ≤ 1048576 then (1048576 : Int) - l.length else -1), σ) := fun σ => v30 w l o 1048576 hn0 (by decide) σ _ rfl
  by_cases hbig : l.length ≤ 1048576
  · have hl : l.length < 3000000 := by omega
    have hn : l.length < 1000000000000 := by omega
    have hto : ∀ σ : St, callI TT 32 [.agg (lin w l o)] σ = some (.agg (lin w l o), σ) := fun σ => tol32 w l o hn σ _ rfl rfl
    have heq : ∀ σ : St, callI TT 34 [.agg (lin w l o), .agg (lin w l o)] σ = some (.bool true, σ) := fun σ => v34 w l o hn σ _ rfl
    have hS : ∀ σ : St, callI TT 61 [.agg (lin w l o), .int .i64 s] σ = some (.tup [.int .i64 (bkV w l o s), .bool (bk w l o s).isSome], σ) := fun σ => v61 w l o s hn σ _ rfl
    have hI : ∀ σ : St, callI TT 62 [.agg (lin w l o), .int .i64 s] σ = some (.tup [.int .i64 (bkV w l o s), .bool (bk w l o s).isSome], σ) := fun σ => v62 w l o s hl σ _ rfl
    have h1 : ¬ ((1048576 : Int) - l.length < 0) := by omega
    have h2 : ¬ ((1048576 : Int) < l.length) := by omega
    simp only [if_pos hbig] at hsz
    simp only [lin] at hsz hto heq hS hI ⊢
    simp [xI_seq, xI_region, xI_ret, regA, regOps, runOps, opStep, wantedA, opA, evo, evos, calleeA, lk, nif_eq, putE, paramsE, valS, val2, keepE, restrict, finA, resA, binA, binInt, ofConst, ofConst1, loadA, TK.isAgg, asVar, unA, builtinA, lenOpA, lenA, ileb_cast, ileb_eq, ieqb_dec, indexAddrA, inB_dec, evPairs, storeA, AV.cellsOf, pairsOf, xI_nil, binBool, gcE, evOpt, xI_block, xI_loopH, xI_condM, xI_exitM, xI_skip, xI_blk, exitA, ty2, ty3, ty4, ty38, ty41, cellsAt, getCells, takeN, dropN, fieldAddrA, allOne, AV.one, n_push, storeCellsA, putN, overN, ty2, ty33, ty38, ty41, St.push, St.get, St.set, hget, hset, runTr, pairsOk, pairOk, lstAt, lastOf, sameVal, AV.eqv, eqvs, eqvs_ints, regOps, blt_dec, cond_true, cond_false, hsz, hto, heq, hS, hI, h1, h2]
  · simp only [if_neg hbig] at hsz
    simp only [lin] at hsz ⊢
    simp [xI_seq, xI_region, xI_ret, regA, regOps, runOps, opStep, wantedA, opA, evo, evos, calleeA, lk, nif_eq, putE, paramsE, valS, val2, keepE, restrict, finA, resA, binA, binInt, ofConst, ofConst1, loadA, TK.isAgg, asVar, unA, builtinA, lenOpA, lenA, ileb_cast, ileb_eq, ieqb_dec, indexAddrA, inB_dec, evPairs, storeA, AV.cellsOf, pairsOf, xI_nil, binBool, gcE, evOpt, xI_block, xI_loopH, xI_condM, xI_exitM, xI_skip, xI_blk, exitA, ty2, ty3, ty4, ty38, ty41, cellsAt, getCells, takeN, dropN, fieldAddrA, allOne, AV.one, n_push, storeCellsA, putN, overN, ty2, ty33, ty38, ty41, St.push, St.get, St.set, hget, hset, runTr, pairsOk, pairOk, lstAt, lastOf, sameVal, AV.eqv, eqvs, eqvs_ints, regOps, blt_dec, cond_true, cond_false, hsz]

end Go.Proofs.Ytonnbgjbohbibaa
