/- Contracts: bits that registers output. Nothing is claimed here; no condition. -/
import Derived.Test.YthkdbkjkccogfaaDoorGb
namespace Go.Proofs.YthkdbkjkccogfaaDoor
open Go Go.Abs
set_option linter.unusedSimpArgs false
set_option linter.unusedVariables false
open Go.Wd
theorem c115 (q : Nat) (hq : q < 2) (σ : St) : callI TT 115 [.int .i64 q] σ = some (.int .u8 ((bb q).toNat : Nat), σ) := by
  refine (FnV.mk (args' := [.int .i64 q]) fn115 rfl md115 ⟨⟨[], 0⟩, ?_⟩ (fun _ => rfl) rfl) σ _ rfl
  have h1 := bb_conv hq ⟨[], 0⟩
  have h2 := bb_wrap hq
  rw [fi115]
  simp [xI_seq, xI_region, xI_ret, regA, regOps, runOps, opStep, wantedA, opA, evo, evos, calleeA, lk, nif_eq, putE, paramsE, valS, val2, keepE, restrict, finA, resA, binA, binInt, ofConst, ofConst1, loadA, TK.isAgg, asVar, unA, builtinA, lenOpA, lenA, ileb_cast, ileb_eq, ieqb_dec, indexAddrA, inB_dec, evPairs, storeA, AV.cellsOf, pairsOf, xI_nil, binBool, gcE, evOpt, tagZ, xI_block, xI_loopH, xI_condM, xI_exitM, xI_skip, xI_blk, exitA, ty2, ty5, h2, h1]

noncomputable def b117 : Code := Tryd.f117.body.getD .skip
noncomputable def B117_0 : Code := (bodyC (bodyC (sndC (fstC (sndC (sndC b117))))))
noncomputable def K117_0 : List It := .lp B117_0 :: .blk 0 :: .code (sndC (sndC (sndC b117))) :: []
theorem xl117_0 {fi : FI} {env : Env} {σ : St} : exI TT fi K117_0 env σ = exI TT fi (.code B117_0 :: K117_0) env σ := by unfold K117_0; exact xI_lp
noncomputable def R117_0_0 : List It := .code (sndC (sndC (sndC b117))) :: []
theorem eK117_0_0 : exitA 0 K117_0 = some R117_0_0 := rfl
theorem l117 (w t c : Nat) (hw : w ≤ 16) (ht : t < 65536) (hc : c ≤ 400) (p : Nat) (x : Blk) (hx : x.cells = [.int .i64 w, .int .i64 t]) : ∀ (m n : Nat) (l : List UInt8) (σ : St) (b : Nat), l.length + m = c → n < 2 ^ w → σ.get p = some x → p < b → BRow σ b l →
    ∃ σ', exI TT (FI.of Tryd.f117 (TT.an 117)) K117_0 [(0, .ptr p 0), (1, .int .i64 n), (2, .int .i64 c), (7, .sl b 0 l.length l.length), (8, .int .i64 l.length)] σ = some (.str (l ++ outR w t m n), σ') ∧ σ.n ≤ σ'.n ∧ ∀ c, c < b → σ'.get c = σ.get c := by
  have h16 : 2 ^ w ≤ 2 ^ 16 := Nat.pow_le_pow_right (by decide) hw
  intro m
  induction m with
  | zero =>
    intro n l σ b hl hn hp hpb hr
    obtain rfl : c = l.length := by omega
    have hs := toStr hr rfl
    refine ⟨σ, ?_, Nat.le_refl _, fun _ _ => rfl⟩
    rw [fi117]
    rw [xl117_0]
    simp only [B117_0, b117, Tryd.f117, Option.getD, fstC, sndC, bodyC, thnC, elsC]
    simp [xI_seq, xI_region, xI_ret, regA, regOps, runOps, opStep, wantedA, opA, evo, evos, calleeA, lk, nif_eq, putE, paramsE, valS, val2, keepE, restrict, finA, resA, binA, binInt, ofConst, ofConst1, loadA, TK.isAgg, asVar, unA, builtinA, lenOpA, lenA, ileb_cast, ileb_eq, ieqb_dec, indexAddrA, inB_dec, evPairs, storeA, AV.cellsOf, pairsOf, xI_nil, binBool, gcE, evOpt, tagZ, xI_block, xI_loopH, xI_condM, xI_exitM, xI_skip, xI_blk, exitA, ty2, ty5, ty9, ty32, eK117_0_0]
    simp only [R117_0_0, b117, Tryd.f117, Option.getD, fstC, sndC, bodyC, thnC, elsC]
    simp [xI_seq, xI_region, xI_ret, regA, regOps, runOps, opStep, wantedA, opA, evo, evos, calleeA, lk, nif_eq, putE, paramsE, valS, val2, keepE, restrict, finA, resA, binA, binInt, ofConst, ofConst1, loadA, TK.isAgg, asVar, unA, builtinA, lenOpA, lenA, ileb_cast, ileb_eq, ieqb_dec, indexAddrA, inB_dec, evPairs, storeA, AV.cellsOf, pairsOf, xI_nil, binBool, gcE, evOpt, tagZ, xI_block, xI_loopH, xI_condM, xI_exitM, xI_skip, xI_blk, exitA, ty2, ty5, ty9, ty32, eK117_0_0, hs, outR]
  | succ m ih =>
    intro n l σ b hl hn hp hpb hr
    have hpl := rbit_lt w n
    have hbn := hr.lt
    obtain ⟨σ1, ha, hr1, hn1, _, ho1⟩ := bappend (x := bb (rbit w n)) ty32 ty5 hr rfl (by omega)
    have hp1 : σ1.get p = some x := (ho1 p (by omega) (by omega)).trans hp
    have hc1 := c61 w t n hw ht (by omega) σ p x hp hx
    have hc2 := bb_wrap hpl
    have hc3 : ∀ σ, convA TT σ 2 5 (.int .i64 (48 + ((rbit w n : Nat) : Int))) = some (.int .u8 ((bb (rbit w n)).toNat : Nat), σ) := bb_conv hpl
    obtain ⟨σ', h1, h2, h3⟩ := ih (rnext w t n) (l ++ [bb (rbit w n)]) σ1 (σ.n + 1) (by simp; omega) (rnext_lt hn) hp1 (by omega) hr1
    refine ⟨σ', ?_, by omega, fun c hc => (h3 c (by omega)).trans (ho1 c (by omega) (by omega))⟩
    rw [show l ++ outR w t (m + 1) n = l ++ [bb (rbit w n)] ++ outR w t m (rnext w t n) by simp [outR]]
    simp only [List.length_append, List.length_singleton] at h1
    have hlt : ¬ c ≤ l.length := by omega
    have hlt2 : l.length < c := by omega
    have hw1 := wrapS (n := l.length) (by omega)
    rw [fi117] at h1 ⊢
    rw [xl117_0]
    simp only [B117_0, b117, Tryd.f117, Option.getD, fstC, sndC, bodyC, thnC, elsC]
    simp [xI_seq, xI_region, xI_ret, regA, regOps, runOps, opStep, wantedA, opA, evo, evos, calleeA, lk, nif_eq, putE, paramsE, valS, val2, keepE, restrict, finA, resA, binA, binInt, ofConst, ofConst1, loadA, TK.isAgg, asVar, unA, builtinA, lenOpA, lenA, ileb_cast, ileb_eq, ieqb_dec, indexAddrA, inB_dec, evPairs, storeA, AV.cellsOf, pairsOf, xI_nil, binBool, gcE, evOpt, tagZ, xI_block, xI_loopH, xI_condM, xI_exitM, xI_skip, xI_blk, exitA, ty2, ty5, ty9, ty32, eK117_0_0, hlt, hlt2, hw1, ha, bb1, hc1, hc2, hc3]
    simpa using h1
theorem r117 (w t c n : Nat) (hw : w ≤ 16) (ht : t < 65536) (hc : c ≤ 400) (hn : n < 2 ^ w) (p : Nat) (x : Blk) (hx : x.cells = [.int .i64 w, .int .i64 t]) (σ : St) (hp : σ.get p = some x) (hpn : p < σ.n) :
    ∃ σ', callI TT 117 [.ptr p 0, .int .i64 n, .int .i64 c] σ = some (.str (outR w t c n), σ') ∧ Old σ σ' := by
  obtain ⟨σ', h, h2, h3⟩ := l117 w t c hw ht hc p x hx c n [] (σ.push ⟨intsOf [], 1, false⟩) σ.n (by simp) hn ((get_push_lt hpn).trans hp) hpn (BRow.push σ [])
  refine ⟨σ', ?_, ⟨by simp only [n_push] at h2; omega, fun c hc => (h3 c hc).trans (get_push_lt hc)⟩⟩
  rw [cI_0 fn117 rfl md117, fi117]
  rw [fi117] at h
  simp only [List.nil_append, List.length_nil, Int.natCast_zero, show ((0 : Nat) : Int) = 0 from rfl] at h
  simp [xI_seq, xI_region, xI_ret, regA, regOps, runOps, opStep, wantedA, opA, evo, evos, calleeA, lk, nif_eq, putE, paramsE, valS, val2, keepE, restrict, finA, resA, binA, binInt, ofConst, ofConst1, loadA, TK.isAgg, asVar, unA, builtinA, lenOpA, lenA, ileb_cast, ileb_eq, ieqb_dec, indexAddrA, inB_dec, evPairs, storeA, AV.cellsOf, pairsOf, xI_nil, binBool, gcE, evOpt, tagZ, xI_block, xI_loopH, xI_condM, xI_exitM, xI_skip, xI_blk, exitA, ty2, ty5, ty9, ty32, eK117_0_0, bb0]
  exact h

noncomputable def b64 : Code := Tryd.f64.body.getD .skip
noncomputable def B64_0 : Code := (bodyC (bodyC (sndC (fstC (sndC (sndC b64))))))
noncomputable def K64_0 : List It := .lp B64_0 :: .blk 0 :: .code (sndC (sndC (sndC b64))) :: []
theorem xl64_0 {fi : FI} {env : Env} {σ : St} : exI TT fi K64_0 env σ = exI TT fi (.code B64_0 :: K64_0) env σ := by unfold K64_0; exact xI_lp
noncomputable def R64_0_0 : List It := .code (sndC (sndC (sndC b64))) :: []
theorem eK64_0_0 : exitA 0 K64_0 = some R64_0_0 := rfl
theorem l64 (w t c : Nat) (hw : w ≤ 16) (ht : t < 65536) (hc : c ≤ 1048576) : ∀ (m n : Nat) (l : List UInt8) (σ : St) (r : Nat), l.length + m = c → n < 2 ^ w → σ.get 0 = some ⟨[.int .i64 w, .int .i64 t], 2, false⟩ → Bld σ 1 r l → r ≠ 0 →
    ∃ σ', exI TT (FI.of Tryd.f64 (TT.an 64)) K64_0 [(1, .int .i64 n), (3, .ptr 0 0), (8, .ptr 1 0), (11, .int .i64 c), (12, .int .i64 l.length)] σ = some (.tup [.str (l ++ outR w t m n), .int .i64 (endR w t m n : Nat)], σ') := by
  have h16 : 2 ^ w ≤ 2 ^ 16 := Nat.pow_le_pow_right (by decide) hw
  intro m
  induction m with
  | zero =>
    intro n l σ r hl hn hp hb hr
    obtain rfl : c = l.length := by omega
    obtain ⟨σ1, hs, _, _⟩ := c92 hb (by omega)
    refine ⟨σ1, ?_⟩
    rw [fi64]
    rw [xl64_0]
    simp only [B64_0, b64, Tryd.f64, Option.getD, fstC, sndC, bodyC, thnC, elsC]
    simp [xI_seq, xI_region, xI_ret, regA, regOps, runOps, opStep, wantedA, opA, evo, evos, calleeA, lk, nif_eq, putE, paramsE, valS, val2, keepE, restrict, finA, resA, binA, binInt, ofConst, ofConst1, loadA, TK.isAgg, asVar, unA, builtinA, lenOpA, lenA, ileb_cast, ileb_eq, ieqb_dec, indexAddrA, inB_dec, evPairs, storeA, AV.cellsOf, pairsOf, xI_nil, binBool, gcE, evOpt, tagZ, xI_block, xI_loopH, xI_condM, xI_exitM, xI_skip, xI_blk, exitA, ty2, ty27, ty117, eK64_0_0]
    simp only [R64_0_0, b64, Tryd.f64, Option.getD, fstC, sndC, bodyC, thnC, elsC]
    simp [xI_seq, xI_region, xI_ret, regA, regOps, runOps, opStep, wantedA, opA, evo, evos, calleeA, lk, nif_eq, putE, paramsE, valS, val2, keepE, restrict, finA, resA, binA, binInt, ofConst, ofConst1, loadA, TK.isAgg, asVar, unA, builtinA, lenOpA, lenA, ileb_cast, ileb_eq, ieqb_dec, indexAddrA, inB_dec, evPairs, storeA, AV.cellsOf, pairsOf, xI_nil, binBool, gcE, evOpt, tagZ, xI_block, xI_loopH, xI_condM, xI_exitM, xI_skip, xI_blk, exitA, ty2, ty27, ty117, eK64_0_0, hs, outR, endR]
  | succ m ih =>
    intro n l σ r hl hn hp hb hr
    have hpl := rbit_lt w n
    have hcp : cellsAt σ (.ptr 0 0) 2 = some [.int .i64 w, .int .i64 t] := by simp [cellsAt, hp, getCells, takeN, dropN]
    have hn0 : 1 < σ.n := hb.1
    obtain ⟨σ1, r1, ha, hb1, hrn, hnn, ho1⟩ := c91 hb (by omega) (bb (rbit w n))
    have hp1 := (ho1 0 (by omega) (by decide) (fun e => hr e.symm)).trans hp
    have hc1 := c114 w t n hw ht (by omega) σ
    have hc3 := c115 (rbit w n) hpl σ
    obtain ⟨σ', h1⟩ := ih (rnext w t n) (l ++ [bb (rbit w n)]) σ1 r1 (by simp; omega) (rnext_lt hn) hp1 hb1 (by omega)
    refine ⟨σ', ?_⟩
    rw [show l ++ outR w t (m + 1) n = l ++ [bb (rbit w n)] ++ outR w t m (rnext w t n) by simp [outR], show endR w t (m + 1) n = endR w t m (rnext w t n) from rfl]
    simp only [List.length_append, List.length_singleton] at h1
    have hlt : ¬ c ≤ l.length := by omega
    have hlt2 : l.length < c := by omega
    have hw1 := wrapS (n := l.length) (by omega)
    rw [fi64] at h1 ⊢
    rw [xl64_0]
    simp only [B64_0, b64, Tryd.f64, Option.getD, fstC, sndC, bodyC, thnC, elsC]
    simp [xI_seq, xI_region, xI_ret, regA, regOps, runOps, opStep, wantedA, opA, evo, evos, calleeA, lk, nif_eq, putE, paramsE, valS, val2, keepE, restrict, finA, resA, binA, binInt, ofConst, ofConst1, loadA, TK.isAgg, asVar, unA, builtinA, lenOpA, lenA, ileb_cast, ileb_eq, ieqb_dec, indexAddrA, inB_dec, evPairs, storeA, AV.cellsOf, pairsOf, xI_nil, binBool, gcE, evOpt, tagZ, xI_block, xI_loopH, xI_condM, xI_exitM, xI_skip, xI_blk, exitA, ty2, ty27, ty117, eK64_0_0, ty27, hlt, hlt2, hw1, ha, hcp, hc1, hc3]
    simpa using h1
theorem v64 (w t c n : Nat) (hw : w ≤ 16) (ht : t < 65536) (hc : c ≤ 1048576) (hn : n < 2 ^ w) : FnV TT 64 [.agg [.int .i64 w, .int .i64 t], .int .i64 n, .int .i64 c] (.tup [.str (outR w t c n), .int .i64 (endR w t c n : Nat)]) := by
  obtain ⟨σ', h⟩ := l64 w t c hw ht hc c n [] (((⟨[], 0⟩ : St).push ⟨[.int .i64 w, .int .i64 t], 2, false⟩).push ⟨[.nilP, .nilS], tagOf 117 2, false⟩) 1 (by simp) hn rfl (Bld.new ((⟨[], 0⟩ : St).push ⟨[.int .i64 w, .int .i64 t], 2, false⟩)) (by decide)
  refine FnV.mk fn64 rfl md64 ⟨σ', ?_⟩ (fun _ => rfl) rfl
  rw [fi64]
  rw [fi64] at h
  simp only [List.nil_append, List.length_nil, Int.natCast_zero, show ((0 : Nat) : Int) = 0 from rfl] at h
  simp [xI_seq, xI_region, xI_ret, regA, regOps, runOps, opStep, wantedA, opA, evo, evos, calleeA, lk, nif_eq, putE, paramsE, valS, val2, keepE, restrict, finA, resA, binA, binInt, ofConst, ofConst1, loadA, TK.isAgg, asVar, unA, builtinA, lenOpA, lenA, ileb_cast, ileb_eq, ieqb_dec, indexAddrA, inB_dec, evPairs, storeA, AV.cellsOf, pairsOf, xI_nil, binBool, gcE, evOpt, tagZ, xI_block, xI_loopH, xI_condM, xI_exitM, xI_skip, xI_blk, exitA, ty2, ty27, ty117, eK64_0_0, ty117, allOne, AV.one, n_push]
  exact h

def rbOk (w t s n : Int) : Bool := rst w t s && inR n 0 400
def rbV (w t s n : Int) : List UInt8 := if rbOk w t s n = true then outR w.toNat t.toNat n.toNat s.toNat else []
theorem rbV_no {w t s n : Int} (h : rbOk w t s n = false) : rbV w t s n = [] := by simp [rbV, h]
theorem rbV_yes {w t s n : Nat} (h : rbOk w t s n = true) : rbV w t s n = outR w t n s := by simp [rbV, h]
theorem rbOk_of {w t s n : Nat} (hw : w ≤ 16) (ht : t < 2 ^ w) (hs : s < 2 ^ w) (hn : n ≤ 400) : rbOk w t s n = true := by
  simp only [rbOk, Bool.and_eq_true]
  exact ⟨rst_of hw ht hs, inR_iff.2 (by omega)⟩

theorem v68 (w t s : Int) : FnV TT 68 [.agg [.int .i64 w, .int .i64 t], .int .i64 s] (.bool (rst w t s)) := by
  refine FnV.mk fn68 rfl md68 ⟨(⟨[], 0⟩ : St).push ⟨[.int .i64 w, .int .i64 t], 2, false⟩, ?_⟩ (fun _ => rfl) rfl
  obtain ⟨σ, hσ⟩ : ∃ σ, (⟨[], 0⟩ : St).push ⟨[.int .i64 w, .int .i64 t], 2, false⟩ = σ := ⟨_, rfl⟩
  have hcp : cellsAt σ (.ptr 0 0) 1 = some [.int .i64 w] := by subst hσ; rfl
  have hcp2 : cellsAt σ (.ptr 0 0) 2 = some [.int .i64 w, .int .i64 t] := by subst hσ; rfl
  have hi : callI TT 62 [.agg [.int .i64 w, .int .i64 t]] σ = some (.bool (vreg w t), σ) := v62 w t σ _ rfl
  rw [fi68, hσ]
  cases h1 : vreg w t with
  | false =>
    rw [h1] at hi
    simp [xI_seq, xI_region, xI_ret, regA, regOps, runOps, opStep, wantedA, opA, evo, evos, calleeA, lk, nif_eq, putE, paramsE, valS, val2, keepE, restrict, finA, resA, binA, binInt, ofConst, ofConst1, loadA, TK.isAgg, asVar, unA, builtinA, lenOpA, lenA, ileb_cast, ileb_eq, ieqb_dec, indexAddrA, inB_dec, evPairs, storeA, AV.cellsOf, pairsOf, xI_nil, binBool, gcE, evOpt, tagZ, xI_block, xI_loopH, xI_condM, xI_exitM, xI_skip, xI_blk, exitA, ty2, ty27, runTr, pairsOk, pairOk, lstAt, lastOf, sameVal, AV.eqv, eqvs, eqvs_ints, regOps, blt_dec, cond_true, cond_false, fieldAddrA, allOne, AV.one, n_push, ty2, ty27, hσ, hcp, hcp2, hi]
    simp [rst, h1]
  | true =>
    rw [h1] at hi
    obtain ⟨k, m, rfl, rfl, hk, _, _⟩ := reg_nat h1
    have e2 := sh_1 (b := k) (by omega)
    have e3 := pw_dec hk
    have hc := c69 s 0 (((pw k : Nat) : Int) - 1) σ
    simp [xI_seq, xI_region, xI_ret, regA, regOps, runOps, opStep, wantedA, opA, evo, evos, calleeA, lk, nif_eq, putE, paramsE, valS, val2, keepE, restrict, finA, resA, binA, binInt, ofConst, ofConst1, loadA, TK.isAgg, asVar, unA, builtinA, lenOpA, lenA, ileb_cast, ileb_eq, ieqb_dec, indexAddrA, inB_dec, evPairs, storeA, AV.cellsOf, pairsOf, xI_nil, binBool, gcE, evOpt, tagZ, xI_block, xI_loopH, xI_condM, xI_exitM, xI_skip, xI_blk, exitA, ty2, ty27, runTr, pairsOk, pairOk, lstAt, lastOf, sameVal, AV.eqv, eqvs, eqvs_ints, regOps, blt_dec, cond_true, cond_false, fieldAddrA, allOne, AV.one, n_push, ty2, ty27, hσ, hcp, hcp2, hi, hc, e2, e3]
    simp [rst, h1]

theorem v21 (w t s n : Int) : FnV TT 21 [.agg [.int .i64 w, .int .i64 t], .int .i64 s, .int .i64 n] (.tup [.str (rbV w t s n), .bool (rbOk w t s n)]) := by
  refine FnV.mk fn21 rfl md21 ?_ (fun _ => rfl) rfl
  obtain ⟨σ, hσ⟩ : ∃ σ, (⟨[], 0⟩ : St).push ⟨[.int .i64 w, .int .i64 t], 2, false⟩ = σ := ⟨_, rfl⟩
  have hcp : cellsAt σ (.ptr 0 0) 2 = some [.int .i64 w, .int .i64 t] := by subst hσ; rfl
  have h : callI TT 68 [.agg [.int .i64 w, .int .i64 t], .int .i64 s] σ = some (.bool (rst w t s), σ) := v68 w t s σ _ rfl
  have hi := c69 n 0 400 σ
  rw [fi21]
  cases h1 : rst w t s with
  | false =>
    rw [h1] at h
    have hj : rbOk w t s n = false := by simp [rbOk, h1]
    rw [rbV_no hj, hj]
    simp [xI_seq, xI_region, xI_ret, regA, regOps, runOps, opStep, wantedA, opA, evo, evos, calleeA, lk, nif_eq, putE, paramsE, valS, val2, keepE, restrict, finA, resA, binA, binInt, ofConst, ofConst1, loadA, TK.isAgg, asVar, unA, builtinA, lenOpA, lenA, ileb_cast, ileb_eq, ieqb_dec, indexAddrA, inB_dec, evPairs, storeA, AV.cellsOf, pairsOf, xI_nil, binBool, gcE, evOpt, tagZ, xI_block, xI_loopH, xI_condM, xI_exitM, xI_skip, xI_blk, exitA, ty4, ty27, runTr, pairsOk, pairOk, lstAt, lastOf, sameVal, AV.eqv, eqvs, eqvs_ints, regOps, blt_dec, cond_true, cond_false, fieldAddrA, allOne, AV.one, n_push, ty2, ty27, hσ, hcp, h]
  | true =>
    rw [h1] at h
    obtain ⟨k, m, q, rfl, rfl, rfl, hk, hm, hq, hm6, hq6⟩ := rst_nat h1
    cases h8 : inR n 0 400 with
    | false =>
      rw [h8] at hi
      have hj : rbOk k m q n = false := by simp [rbOk, h1, h8]
      rw [rbV_no hj, hj]
      simp [xI_seq, xI_region, xI_ret, regA, regOps, runOps, opStep, wantedA, opA, evo, evos, calleeA, lk, nif_eq, putE, paramsE, valS, val2, keepE, restrict, finA, resA, binA, binInt, ofConst, ofConst1, loadA, TK.isAgg, asVar, unA, builtinA, lenOpA, lenA, ileb_cast, ileb_eq, ieqb_dec, indexAddrA, inB_dec, evPairs, storeA, AV.cellsOf, pairsOf, xI_nil, binBool, gcE, evOpt, tagZ, xI_block, xI_loopH, xI_condM, xI_exitM, xI_skip, xI_blk, exitA, ty4, ty27, runTr, pairsOk, pairOk, lstAt, lastOf, sameVal, AV.eqv, eqvs, eqvs_ints, regOps, blt_dec, cond_true, cond_false, fieldAddrA, allOne, AV.one, n_push, ty2, ty27, hσ, hcp, h, hi]
    | true =>
      rw [h8] at hi
      have hn := inR_iff.1 h8
      obtain ⟨c, rfl⟩ : ∃ c : Nat, n = c := ⟨n.toNat, by omega⟩
      have hj : rbOk k m q c = true := by simp [rbOk, h1, h8]
      rw [rbV_yes hj, hj]
      have e1 : callI TT 64 [.agg [.int .i64 k, .int .i64 m], .int .i64 q, .int .i64 c] σ = some (.tup [.str (outR k m c q), .int .i64 (endR k m c q : Nat)], σ) := v64 k m c q hk hm6 (by omega) hq σ _ rfl
      simp [xI_seq, xI_region, xI_ret, regA, regOps, runOps, opStep, wantedA, opA, evo, evos, calleeA, lk, nif_eq, putE, paramsE, valS, val2, keepE, restrict, finA, resA, binA, binInt, ofConst, ofConst1, loadA, TK.isAgg, asVar, unA, builtinA, lenOpA, lenA, ileb_cast, ileb_eq, ieqb_dec, indexAddrA, inB_dec, evPairs, storeA, AV.cellsOf, pairsOf, xI_nil, binBool, gcE, evOpt, tagZ, xI_block, xI_loopH, xI_condM, xI_exitM, xI_skip, xI_blk, exitA, ty4, ty27, runTr, pairsOk, pairOk, lstAt, lastOf, sameVal, AV.eqv, eqvs, eqvs_ints, regOps, blt_dec, cond_true, cond_false, fieldAddrA, allOne, AV.one, n_push, ty2, ty27, hσ, hcp, h, hi, e1]

end Go.Proofs.YthkdbkjkccogfaaDoor
