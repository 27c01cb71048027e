/- Contracts: bits that registers output. Nothing is claimed here; no condition. -/
import Derived.Test.YthkdbkjkccogfaaGb
namespace Go.Proofs.Ythkdbkjkccogfaa
open Go Go.Abs
set_option linter.unusedSimpArgs false
set_option linter.unusedVariables false
open Go.Wd
theorem c45 (q : Nat) (hq : q < 2) (σ : St) : callI TT 45 [.int .i64 q] σ = some (.int .u8 ((bb q).toNat : Nat), σ) := by
  refine (FnV.mk (args' := [.int .i64 q]) fn45 rfl md45 ⟨⟨[], 0⟩, ?_⟩ (fun _ => rfl) rfl) σ _ rfl
  have h1 := bb_conv hq ⟨[], 0⟩
  have h2 := bb_wrap hq
  rw [fi45]
  simp [xI_seq, xI_region, xI_ret, regA, regOps, runOps, opStep, wantedA, opA, evo, evos, calleeA, lk, nif_eq, putE, paramsE, valS, val2, keepE, restrict, finA, resA, binA, binInt, ofConst, ofConst1, loadA, TK.isAgg, asVar, unA, builtinA, lenOpA, lenA, ileb_cast, ileb_eq, ieqb_dec, indexAddrA, inB_dec, evPairs, storeA, AV.cellsOf, pairsOf, xI_nil, binBool, gcE, evOpt, tagZ, xI_block, xI_loopH, xI_condM, xI_exitM, xI_skip, xI_blk, exitA, ty2, ty5, h2, h1]

noncomputable def b30 : Code := Try.f30.body.getD .skip
noncomputable def B30_0 : Code := (bodyC (bodyC (sndC (fstC (sndC (sndC b30))))))
noncomputable def K30_0 : List It := .lp B30_0 :: .blk 0 :: .code (sndC (sndC (sndC b30))) :: []
theorem xl30_0 {fi : FI} {env : Env} {σ : St} : exI TT fi K30_0 env σ = exI TT fi (.code B30_0 :: K30_0) env σ := by unfold K30_0; exact xI_lp
noncomputable def R30_0_0 : List It := .code (sndC (sndC (sndC b30))) :: []
theorem eK30_0_0 : exitA 0 K30_0 = some R30_0_0 := rfl
theorem l30 (w t c : Nat) (hw : w ≤ 16) (ht : t < 65536) (hc : c ≤ 400) (p : Nat) (x : Blk) (hx : x.cells = [.int .i64 w, .int .i64 t]) : ∀ (m n : Nat) (l : List UInt8) (σ : St) (b : Nat), l.length + m = c → n < 2 ^ w → σ.get p = some x → p < b → BRow σ b l →
    ∃ σ', exI TT (FI.of Try.f30 (TT.an 30)) K30_0 [(0, .ptr p 0), (1, .int .i64 n), (2, .int .i64 c), (7, .sl b 0 l.length l.length), (8, .int .i64 l.length)] σ = some (.str (l ++ outR w t m n), σ') ∧ σ.n ≤ σ'.n ∧ ∀ c, c < b → σ'.get c = σ.get c := by
  have h16 : 2 ^ w ≤ 2 ^ 16 := Nat.pow_le_pow_right (by decide) hw
  intro m
  induction m with
  | zero =>
    intro n l σ b hl hn hp hpb hr
    obtain rfl : c = l.length := by omega
    have hs := toStr hr rfl
    refine ⟨σ, ?_, Nat.le_refl _, fun _ _ => rfl⟩
    rw [fi30]
    rw [xl30_0]
    simp only [B30_0, b30, Try.f30, Option.getD, fstC, sndC, bodyC, thnC, elsC]
    simp [xI_seq, xI_region, xI_ret, regA, regOps, runOps, opStep, wantedA, opA, evo, evos, calleeA, lk, nif_eq, putE, paramsE, valS, val2, keepE, restrict, finA, resA, binA, binInt, ofConst, ofConst1, loadA, TK.isAgg, asVar, unA, builtinA, lenOpA, lenA, ileb_cast, ileb_eq, ieqb_dec, indexAddrA, inB_dec, evPairs, storeA, AV.cellsOf, pairsOf, xI_nil, binBool, gcE, evOpt, tagZ, xI_block, xI_loopH, xI_condM, xI_exitM, xI_skip, xI_blk, exitA, ty2, ty5, ty9, ty29, eK30_0_0]
    simp only [R30_0_0, b30, Try.f30, Option.getD, fstC, sndC, bodyC, thnC, elsC]
    simp [xI_seq, xI_region, xI_ret, regA, regOps, runOps, opStep, wantedA, opA, evo, evos, calleeA, lk, nif_eq, putE, paramsE, valS, val2, keepE, restrict, finA, resA, binA, binInt, ofConst, ofConst1, loadA, TK.isAgg, asVar, unA, builtinA, lenOpA, lenA, ileb_cast, ileb_eq, ieqb_dec, indexAddrA, inB_dec, evPairs, storeA, AV.cellsOf, pairsOf, xI_nil, binBool, gcE, evOpt, tagZ, xI_block, xI_loopH, xI_condM, xI_exitM, xI_skip, xI_blk, exitA, ty2, ty5, ty9, ty29, eK30_0_0, hs, outR]
  | succ m ih =>
    intro n l σ b hl hn hp hpb hr
    have hpl := rbit_lt w n
    have hbn := hr.lt
    obtain ⟨σ1, ha, hr1, hn1, _, ho1⟩ := bappend (x := bb (rbit w n)) ty29 ty5 hr rfl (by omega)
    have hp1 : σ1.get p = some x := (ho1 p (by omega) (by omega)).trans hp
    have hc1 := c41 w t n hw ht (by omega) σ p x hp hx
    have hc2 := bb_wrap hpl
    have hc3 : ∀ σ, convA TT σ 2 5 (.int .i64 (48 + ((rbit w n : Nat) : Int))) = some (.int .u8 ((bb (rbit w n)).toNat : Nat), σ) := bb_conv hpl
    obtain ⟨σ', h1, h2, h3⟩ := ih (rnext w t n) (l ++ [bb (rbit w n)]) σ1 (σ.n + 1) (by simp; omega) (rnext_lt hn) hp1 (by omega) hr1
    refine ⟨σ', ?_, by omega, fun c hc => (h3 c (by omega)).trans (ho1 c (by omega) (by omega))⟩
    rw [show l ++ outR w t (m + 1) n = l ++ [bb (rbit w n)] ++ outR w t m (rnext w t n) by simp [outR]]
    simp only [List.length_append, List.length_singleton] at h1
    have hlt : ¬ c ≤ l.length := by omega
    have hlt2 : l.length < c := by omega
    have hw1 := wrapS (n := l.length) (by omega)
    rw [fi30] at h1 ⊢
    rw [xl30_0]
    simp only [B30_0, b30, Try.f30, Option.getD, fstC, sndC, bodyC, thnC, elsC]
    simp [xI_seq, xI_region, xI_ret, regA, regOps, runOps, opStep, wantedA, opA, evo, evos, calleeA, lk, nif_eq, putE, paramsE, valS, val2, keepE, restrict, finA, resA, binA, binInt, ofConst, ofConst1, loadA, TK.isAgg, asVar, unA, builtinA, lenOpA, lenA, ileb_cast, ileb_eq, ieqb_dec, indexAddrA, inB_dec, evPairs, storeA, AV.cellsOf, pairsOf, xI_nil, binBool, gcE, evOpt, tagZ, xI_block, xI_loopH, xI_condM, xI_exitM, xI_skip, xI_blk, exitA, ty2, ty5, ty9, ty29, eK30_0_0, hlt, hlt2, hw1, ha, bb1, hc1, hc2, hc3]
    simpa using h1
theorem r30 (w t c n : Nat) (hw : w ≤ 16) (ht : t < 65536) (hc : c ≤ 400) (hn : n < 2 ^ w) (p : Nat) (x : Blk) (hx : x.cells = [.int .i64 w, .int .i64 t]) (σ : St) (hp : σ.get p = some x) (hpn : p < σ.n) :
    ∃ σ', callI TT 30 [.ptr p 0, .int .i64 n, .int .i64 c] σ = some (.str (outR w t c n), σ') ∧ Old σ σ' := by
  obtain ⟨σ', h, h2, h3⟩ := l30 w t c hw ht hc p x hx c n [] (σ.push ⟨intsOf [], 1, false⟩) σ.n (by simp) hn ((get_push_lt hpn).trans hp) hpn (BRow.push σ [])
  refine ⟨σ', ?_, ⟨by simp only [n_push] at h2; omega, fun c hc => (h3 c hc).trans (get_push_lt hc)⟩⟩
  rw [cI_0 fn30 rfl md30, fi30]
  rw [fi30] at h
  simp only [List.nil_append, List.length_nil, Int.natCast_zero, show ((0 : Nat) : Int) = 0 from rfl] at h
  simp [xI_seq, xI_region, xI_ret, regA, regOps, runOps, opStep, wantedA, opA, evo, evos, calleeA, lk, nif_eq, putE, paramsE, valS, val2, keepE, restrict, finA, resA, binA, binInt, ofConst, ofConst1, loadA, TK.isAgg, asVar, unA, builtinA, lenOpA, lenA, ileb_cast, ileb_eq, ieqb_dec, indexAddrA, inB_dec, evPairs, storeA, AV.cellsOf, pairsOf, xI_nil, binBool, gcE, evOpt, tagZ, xI_block, xI_loopH, xI_condM, xI_exitM, xI_skip, xI_blk, exitA, ty2, ty5, ty9, ty29, eK30_0_0, bb0]
  exact h

noncomputable def b33 : Code := Try.f33.body.getD .skip
noncomputable def B33_0 : Code := (bodyC (bodyC (sndC (fstC (sndC (sndC b33))))))
noncomputable def K33_0 : List It := .lp B33_0 :: .blk 0 :: .code (sndC (sndC (sndC b33))) :: []
theorem xl33_0 {fi : FI} {env : Env} {σ : St} : exI TT fi K33_0 env σ = exI TT fi (.code B33_0 :: K33_0) env σ := by unfold K33_0; exact xI_lp
noncomputable def R33_0_0 : List It := .code (sndC (sndC (sndC b33))) :: []
theorem eK33_0_0 : exitA 0 K33_0 = some R33_0_0 := rfl
theorem l33 (w t c : Nat) (hw : w ≤ 16) (ht : t < 65536) (hc : c ≤ 1048576) : ∀ (m n : Nat) (l : List UInt8) (σ : St) (r : Nat), l.length + m = c → n < 2 ^ w → σ.get 0 = some ⟨[.int .i64 w, .int .i64 t], 2, false⟩ → Bld σ 1 r l → r ≠ 0 →
    ∃ σ', exI TT (FI.of Try.f33 (TT.an 33)) K33_0 [(1, .int .i64 n), (3, .ptr 0 0), (8, .ptr 1 0), (11, .int .i64 c), (12, .int .i64 l.length)] σ = some (.tup [.str (l ++ outR w t m n), .int .i64 (endR w t m n : Nat)], σ') := by
  have h16 : 2 ^ w ≤ 2 ^ 16 := Nat.pow_le_pow_right (by decide) hw
  intro m
  induction m with
  | zero =>
    intro n l σ r hl hn hp hb hr
    obtain rfl : c = l.length := by omega
    obtain ⟨σ1, hs, _, _⟩ := c46 hb (by omega)
    refine ⟨σ1, ?_⟩
    rw [fi33]
    rw [xl33_0]
    simp only [B33_0, b33, Try.f33, Option.getD, fstC, sndC, bodyC, thnC, elsC]
    simp [xI_seq, xI_region, xI_ret, regA, regOps, runOps, opStep, wantedA, opA, evo, evos, calleeA, lk, nif_eq, putE, paramsE, valS, val2, keepE, restrict, finA, resA, binA, binInt, ofConst, ofConst1, loadA, TK.isAgg, asVar, unA, builtinA, lenOpA, lenA, ileb_cast, ileb_eq, ieqb_dec, indexAddrA, inB_dec, evPairs, storeA, AV.cellsOf, pairsOf, xI_nil, binBool, gcE, evOpt, tagZ, xI_block, xI_loopH, xI_condM, xI_exitM, xI_skip, xI_blk, exitA, ty2, ty39, ty79, eK33_0_0]
    simp only [R33_0_0, b33, Try.f33, Option.getD, fstC, sndC, bodyC, thnC, elsC]
    simp [xI_seq, xI_region, xI_ret, regA, regOps, runOps, opStep, wantedA, opA, evo, evos, calleeA, lk, nif_eq, putE, paramsE, valS, val2, keepE, restrict, finA, resA, binA, binInt, ofConst, ofConst1, loadA, TK.isAgg, asVar, unA, builtinA, lenOpA, lenA, ileb_cast, ileb_eq, ieqb_dec, indexAddrA, inB_dec, evPairs, storeA, AV.cellsOf, pairsOf, xI_nil, binBool, gcE, evOpt, tagZ, xI_block, xI_loopH, xI_condM, xI_exitM, xI_skip, xI_blk, exitA, ty2, ty39, ty79, eK33_0_0, hs, outR, endR]
  | succ m ih =>
    intro n l σ r hl hn hp hb hr
    have hpl := rbit_lt w n
    have hcp : cellsAt σ (.ptr 0 0) 2 = some [.int .i64 w, .int .i64 t] := by simp [cellsAt, hp, getCells, takeN, dropN]
    have hn0 : 1 < σ.n := hb.1
    obtain ⟨σ1, r1, ha, hb1, hrn, hnn, ho1⟩ := c44 hb (by omega) (bb (rbit w n))
    have hp1 := (ho1 0 (by omega) (by decide) (fun e => hr e.symm)).trans hp
    have hc1 := c43 w t n hw ht (by omega) σ
    have hc3 := c45 (rbit w n) hpl σ
    obtain ⟨σ', h1⟩ := ih (rnext w t n) (l ++ [bb (rbit w n)]) σ1 r1 (by simp; omega) (rnext_lt hn) hp1 hb1 (by omega)
    refine ⟨σ', ?_⟩
    rw [show l ++ outR w t (m + 1) n = l ++ [bb (rbit w n)] ++ outR w t m (rnext w t n) by simp [outR], show endR w t (m + 1) n = endR w t m (rnext w t n) from rfl]
    simp only [List.length_append, List.length_singleton] at h1
    have hlt : ¬ c ≤ l.length := by omega
    have hlt2 : l.length < c := by omega
    have hw1 := wrapS (n := l.length) (by omega)
    rw [fi33] at h1 ⊢
    rw [xl33_0]
    simp only [B33_0, b33, Try.f33, Option.getD, fstC, sndC, bodyC, thnC, elsC]
    simp [xI_seq, xI_region, xI_ret, regA, regOps, runOps, opStep, wantedA, opA, evo, evos, calleeA, lk, nif_eq, putE, paramsE, valS, val2, keepE, restrict, finA, resA, binA, binInt, ofConst, ofConst1, loadA, TK.isAgg, asVar, unA, builtinA, lenOpA, lenA, ileb_cast, ileb_eq, ieqb_dec, indexAddrA, inB_dec, evPairs, storeA, AV.cellsOf, pairsOf, xI_nil, binBool, gcE, evOpt, tagZ, xI_block, xI_loopH, xI_condM, xI_exitM, xI_skip, xI_blk, exitA, ty2, ty39, ty79, eK33_0_0, ty39, hlt, hlt2, hw1, ha, hcp, hc1, hc3]
    simpa using h1
theorem v33 (w t c n : Nat) (hw : w ≤ 16) (ht : t < 65536) (hc : c ≤ 1048576) (hn : n < 2 ^ w) : FnV TT 33 [.agg [.int .i64 w, .int .i64 t], .int .i64 n, .int .i64 c] (.tup [.str (outR w t c n), .int .i64 (endR w t c n : Nat)]) := by
  obtain ⟨σ', h⟩ := l33 w t c hw ht hc c n [] (((⟨[], 0⟩ : St).push ⟨[.int .i64 w, .int .i64 t], 2, false⟩).push ⟨[.nilP, .nilS], tagOf 79 2, false⟩) 1 (by simp) hn rfl (Bld.new ((⟨[], 0⟩ : St).push ⟨[.int .i64 w, .int .i64 t], 2, false⟩)) (by decide)
  refine FnV.mk fn33 rfl md33 ⟨σ', ?_⟩ (fun _ => rfl) rfl
  rw [fi33]
  rw [fi33] at h
  simp only [List.nil_append, List.length_nil, Int.natCast_zero, show ((0 : Nat) : Int) = 0 from rfl] at h
  simp [xI_seq, xI_region, xI_ret, regA, regOps, runOps, opStep, wantedA, opA, evo, evos, calleeA, lk, nif_eq, putE, paramsE, valS, val2, keepE, restrict, finA, resA, binA, binInt, ofConst, ofConst1, loadA, TK.isAgg, asVar, unA, builtinA, lenOpA, lenA, ileb_cast, ileb_eq, ieqb_dec, indexAddrA, inB_dec, evPairs, storeA, AV.cellsOf, pairsOf, xI_nil, binBool, gcE, evOpt, tagZ, xI_block, xI_loopH, xI_condM, xI_exitM, xI_skip, xI_blk, exitA, ty2, ty39, ty79, eK33_0_0, ty79, allOne, AV.one, n_push]
  exact h

def rbOk (w t s n : Int) : Bool := rst w t s && inR n 0 400
def rbV (w t s n : Int) : List UInt8 := if rbOk w t s n = true then outR w.toNat t.toNat n.toNat s.toNat else []
theorem rbV_no {w t s n : Int} (h : rbOk w t s n = false) : rbV w t s n = [] := by simp [rbV, h]
theorem rbV_yes {w t s n : Nat} (h : rbOk w t s n = true) : rbV w t s n = outR w t n s := by simp [rbV, h]
theorem rbOk_of {w t s n : Nat} (hw : w ≤ 16) (ht : t < 2 ^ w) (hs : s < 2 ^ w) (hn : n ≤ 400) : rbOk w t s n = true := by
  simp only [rbOk, Bool.and_eq_true]
  exact ⟨rst_of hw ht hs, inR_iff.2 (by omega)⟩

theorem c28 (w t s : Int) (σ : St) (b : Nat) (x : Blk) (hb : σ.get b = some x) (hx : x.cells = [.int .i64 w, .int .i64 t]) : callI TT 28 [.ptr b 0, .int .i64 s] σ = some (.bool (rst w t s), σ) := by
  have hcp : cellsAt σ (.ptr b 0) 1 = some [.int .i64 w] := by simp [cellsAt, hb, hx, getCells, takeN, dropN]
  have hi := c39 w t σ b x hb hx
  rw [cI_0 fn28 rfl md28, fi28]
  cases h1 : vreg w t with
  | false =>
    rw [h1] at hi
    simp [xI_seq, xI_region, xI_ret, regA, regOps, runOps, opStep, wantedA, opA, evo, evos, calleeA, lk, nif_eq, putE, paramsE, valS, val2, keepE, restrict, finA, resA, binA, binInt, ofConst, ofConst1, loadA, TK.isAgg, asVar, unA, builtinA, lenOpA, lenA, ileb_cast, ileb_eq, ieqb_dec, indexAddrA, inB_dec, evPairs, storeA, AV.cellsOf, pairsOf, xI_nil, binBool, gcE, evOpt, tagZ, xI_block, xI_loopH, xI_condM, xI_exitM, xI_skip, xI_blk, exitA, ty2, ty39, runTr, pairsOk, pairOk, lstAt, lastOf, sameVal, AV.eqv, eqvs, eqvs_ints, regOps, blt_dec, cond_true, cond_false, fieldAddrA, ty2, ty39, hcp, hi]
    simp [rst, h1]
  | true =>
    rw [h1] at hi
    obtain ⟨k, m, rfl, rfl, hk, _, _⟩ := reg_nat h1
    have hc := c40 k hk s σ
    simp [xI_seq, xI_region, xI_ret, regA, regOps, runOps, opStep, wantedA, opA, evo, evos, calleeA, lk, nif_eq, putE, paramsE, valS, val2, keepE, restrict, finA, resA, binA, binInt, ofConst, ofConst1, loadA, TK.isAgg, asVar, unA, builtinA, lenOpA, lenA, ileb_cast, ileb_eq, ieqb_dec, indexAddrA, inB_dec, evPairs, storeA, AV.cellsOf, pairsOf, xI_nil, binBool, gcE, evOpt, tagZ, xI_block, xI_loopH, xI_condM, xI_exitM, xI_skip, xI_blk, exitA, ty2, ty39, runTr, pairsOk, pairOk, lstAt, lastOf, sameVal, AV.eqv, eqvs, eqvs_ints, regOps, blt_dec, cond_true, cond_false, fieldAddrA, ty2, ty39, hcp, hi, hc]
    simp [rst, h1]

theorem v31 (w t s : Int) : FnV TT 31 [.agg [.int .i64 w, .int .i64 t], .int .i64 s] (.bool (rst w t s)) := by
  refine FnV.mk fn31 rfl md31 ⟨(⟨[], 0⟩ : St).push ⟨[.int .i64 w, .int .i64 t], 2, false⟩, ?_⟩ (fun _ => rfl) rfl
  obtain ⟨σ, hσ⟩ : ∃ σ, (⟨[], 0⟩ : St).push ⟨[.int .i64 w, .int .i64 t], 2, false⟩ = σ := ⟨_, rfl⟩
  have hcp : cellsAt σ (.ptr 0 0) 1 = some [.int .i64 w] := by subst hσ; rfl
  have hcp2 : cellsAt σ (.ptr 0 0) 2 = some [.int .i64 w, .int .i64 t] := by subst hσ; rfl
  have hi : callI TT 42 [.agg [.int .i64 w, .int .i64 t]] σ = some (.bool (vreg w t), σ) := v42 w t σ _ rfl
  rw [fi31, hσ]
  cases h1 : vreg w t with
  | false =>
    rw [h1] at hi
    simp [xI_seq, xI_region, xI_ret, regA, regOps, runOps, opStep, wantedA, opA, evo, evos, calleeA, lk, nif_eq, putE, paramsE, valS, val2, keepE, restrict, finA, resA, binA, binInt, ofConst, ofConst1, loadA, TK.isAgg, asVar, unA, builtinA, lenOpA, lenA, ileb_cast, ileb_eq, ieqb_dec, indexAddrA, inB_dec, evPairs, storeA, AV.cellsOf, pairsOf, xI_nil, binBool, gcE, evOpt, tagZ, xI_block, xI_loopH, xI_condM, xI_exitM, xI_skip, xI_blk, exitA, ty2, ty39, runTr, pairsOk, pairOk, lstAt, lastOf, sameVal, AV.eqv, eqvs, eqvs_ints, regOps, blt_dec, cond_true, cond_false, fieldAddrA, allOne, AV.one, n_push, ty2, ty39, hσ, hcp, hcp2, hi]
    simp [rst, h1]
  | true =>
    rw [h1] at hi
    obtain ⟨k, m, rfl, rfl, hk, _, _⟩ := reg_nat h1
    have e2 := sh_1 (b := k) (by omega)
    have e3 := pw_dec hk
    have hc := c32 s 0 (((pw k : Nat) : Int) - 1) σ
    simp [xI_seq, xI_region, xI_ret, regA, regOps, runOps, opStep, wantedA, opA, evo, evos, calleeA, lk, nif_eq, putE, paramsE, valS, val2, keepE, restrict, finA, resA, binA, binInt, ofConst, ofConst1, loadA, TK.isAgg, asVar, unA, builtinA, lenOpA, lenA, ileb_cast, ileb_eq, ieqb_dec, indexAddrA, inB_dec, evPairs, storeA, AV.cellsOf, pairsOf, xI_nil, binBool, gcE, evOpt, tagZ, xI_block, xI_loopH, xI_condM, xI_exitM, xI_skip, xI_blk, exitA, ty2, ty39, runTr, pairsOk, pairOk, lstAt, lastOf, sameVal, AV.eqv, eqvs, eqvs_ints, regOps, blt_dec, cond_true, cond_false, fieldAddrA, allOne, AV.one, n_push, ty2, ty39, hσ, hcp, hcp2, hi, hc, e2, e3]
    simp [rst, h1]

theorem v15 (w t s n : Int) : FnV TT 15 [.agg [.int .i64 w, .int .i64 t], .int .i64 s, .int .i64 n] (.tup [.str (rbV w t s n), .bool (rbOk w t s n)]) := by
  refine FnV.mk fn15 rfl md15 ?_ (fun _ => rfl) rfl
  obtain ⟨σ, hσ⟩ : ∃ σ, (⟨[], 0⟩ : St).push ⟨[.int .i64 w, .int .i64 t], 2, false⟩ = σ := ⟨_, rfl⟩
  have hg : σ.get 0 = some ⟨[.int .i64 w, .int .i64 t], 2, false⟩ := by subst hσ; rfl
  have hn0 : 0 < σ.n := by subst hσ; exact Nat.succ_pos _
  have h := c28 w t s σ 0 _ hg rfl
  have hi := c29 n 0 400 σ
  rw [fi15]
  cases h1 : rst w t s with
  | false =>
    rw [h1] at h
    have hj : rbOk w t s n = false := by simp [rbOk, h1]
    rw [rbV_no hj, hj]
    simp [xI_seq, xI_region, xI_ret, regA, regOps, runOps, opStep, wantedA, opA, evo, evos, calleeA, lk, nif_eq, putE, paramsE, valS, val2, keepE, restrict, finA, resA, binA, binInt, ofConst, ofConst1, loadA, TK.isAgg, asVar, unA, builtinA, lenOpA, lenA, ileb_cast, ileb_eq, ieqb_dec, indexAddrA, inB_dec, evPairs, storeA, AV.cellsOf, pairsOf, xI_nil, binBool, gcE, evOpt, tagZ, xI_block, xI_loopH, xI_condM, xI_exitM, xI_skip, xI_blk, exitA, ty4, ty39, runTr, pairsOk, pairOk, lstAt, lastOf, sameVal, AV.eqv, eqvs, eqvs_ints, regOps, blt_dec, cond_true, cond_false, fieldAddrA, allOne, AV.one, n_push, ty2, ty39, hσ, h]
  | true =>
    rw [h1] at h
    obtain ⟨k, m, q, rfl, rfl, rfl, hk, hm, hq, hm6, hq6⟩ := rst_nat h1
    cases h8 : inR n 0 400 with
    | false =>
      rw [h8] at hi
      have hj : rbOk k m q n = false := by simp [rbOk, h1, h8]
      rw [rbV_no hj, hj]
      simp [xI_seq, xI_region, xI_ret, regA, regOps, runOps, opStep, wantedA, opA, evo, evos, calleeA, lk, nif_eq, putE, paramsE, valS, val2, keepE, restrict, finA, resA, binA, binInt, ofConst, ofConst1, loadA, TK.isAgg, asVar, unA, builtinA, lenOpA, lenA, ileb_cast, ileb_eq, ieqb_dec, indexAddrA, inB_dec, evPairs, storeA, AV.cellsOf, pairsOf, xI_nil, binBool, gcE, evOpt, tagZ, xI_block, xI_loopH, xI_condM, xI_exitM, xI_skip, xI_blk, exitA, ty4, ty39, runTr, pairsOk, pairOk, lstAt, lastOf, sameVal, AV.eqv, eqvs, eqvs_ints, regOps, blt_dec, cond_true, cond_false, fieldAddrA, allOne, AV.one, n_push, ty2, ty39, hσ, h, hi]
    | true =>
      rw [h8] at hi
      have hn := inR_iff.1 h8
      obtain ⟨c, rfl⟩ : ∃ c : Nat, n = c := ⟨n.toNat, by omega⟩
      have hj : rbOk k m q c = true := by simp [rbOk, h1, h8]
      rw [rbV_yes hj, hj]
      obtain ⟨σ', e1, _⟩ := r30 k m c q hk hm6 (by omega) hq 0 _ rfl σ hg hn0
      simp [xI_seq, xI_region, xI_ret, regA, regOps, runOps, opStep, wantedA, opA, evo, evos, calleeA, lk, nif_eq, putE, paramsE, valS, val2, keepE, restrict, finA, resA, binA, binInt, ofConst, ofConst1, loadA, TK.isAgg, asVar, unA, builtinA, lenOpA, lenA, ileb_cast, ileb_eq, ieqb_dec, indexAddrA, inB_dec, evPairs, storeA, AV.cellsOf, pairsOf, xI_nil, binBool, gcE, evOpt, tagZ, xI_block, xI_loopH, xI_condM, xI_exitM, xI_skip, xI_blk, exitA, ty4, ty39, runTr, pairsOk, pairOk, lstAt, lastOf, sameVal, AV.eqv, eqvs, eqvs_ints, regOps, blt_dec, cond_true, cond_false, fieldAddrA, allOne, AV.one, n_push, ty2, ty39, hσ, h, hi, e1]

theorem v17 (w t s n : Int) : FnV TT 17 [.agg [.int .i64 w, .int .i64 t], .int .i64 s, .int .i64 n] (.tup [.str (rbV w t s n), .bool (rbOk w t s n)]) := by
  refine FnV.mk fn17 rfl md17 ?_ (fun _ => rfl) rfl
  obtain ⟨σ, hσ⟩ : ∃ σ, (⟨[], 0⟩ : St).push ⟨[.int .i64 w, .int .i64 t], 2, false⟩ = σ := ⟨_, rfl⟩
  have hcp : cellsAt σ (.ptr 0 0) 2 = some [.int .i64 w, .int .i64 t] := by subst hσ; rfl
  have h : callI TT 31 [.agg [.int .i64 w, .int .i64 t], .int .i64 s] σ = some (.bool (rst w t s), σ) := v31 w t s σ _ rfl
  have hi := c32 n 0 400 σ
  rw [fi17]
  cases h1 : rst w t s with
  | false =>
    rw [h1] at h
    have hj : rbOk w t s n = false := by simp [rbOk, h1]
    rw [rbV_no hj, hj]
    simp [xI_seq, xI_region, xI_ret, regA, regOps, runOps, opStep, wantedA, opA, evo, evos, calleeA, lk, nif_eq, putE, paramsE, valS, val2, keepE, restrict, finA, resA, binA, binInt, ofConst, ofConst1, loadA, TK.isAgg, asVar, unA, builtinA, lenOpA, lenA, ileb_cast, ileb_eq, ieqb_dec, indexAddrA, inB_dec, evPairs, storeA, AV.cellsOf, pairsOf, xI_nil, binBool, gcE, evOpt, tagZ, xI_block, xI_loopH, xI_condM, xI_exitM, xI_skip, xI_blk, exitA, ty4, ty39, runTr, pairsOk, pairOk, lstAt, lastOf, sameVal, AV.eqv, eqvs, eqvs_ints, regOps, blt_dec, cond_true, cond_false, fieldAddrA, allOne, AV.one, n_push, ty2, ty39, hσ, hcp, h]
  | true =>
    rw [h1] at h
    obtain ⟨k, m, q, rfl, rfl, rfl, hk, hm, hq, hm6, hq6⟩ := rst_nat h1
    cases h8 : inR n 0 400 with
    | false =>
      rw [h8] at hi
      have hj : rbOk k m q n = false := by simp [rbOk, h1, h8]
      rw [rbV_no hj, hj]
      simp [xI_seq, xI_region, xI_ret, regA, regOps, runOps, opStep, wantedA, opA, evo, evos, calleeA, lk, nif_eq, putE, paramsE, valS, val2, keepE, restrict, finA, resA, binA, binInt, ofConst, ofConst1, loadA, TK.isAgg, asVar, unA, builtinA, lenOpA, lenA, ileb_cast, ileb_eq, ieqb_dec, indexAddrA, inB_dec, evPairs, storeA, AV.cellsOf, pairsOf, xI_nil, binBool, gcE, evOpt, tagZ, xI_block, xI_loopH, xI_condM, xI_exitM, xI_skip, xI_blk, exitA, ty4, ty39, runTr, pairsOk, pairOk, lstAt, lastOf, sameVal, AV.eqv, eqvs, eqvs_ints, regOps, blt_dec, cond_true, cond_false, fieldAddrA, allOne, AV.one, n_push, ty2, ty39, hσ, hcp, h, hi]
    | true =>
      rw [h8] at hi
      have hn := inR_iff.1 h8
      obtain ⟨c, rfl⟩ : ∃ c : Nat, n = c := ⟨n.toNat, by omega⟩
      have hj : rbOk k m q c = true := by simp [rbOk, h1, h8]
      rw [rbV_yes hj, hj]
      have e1 : callI TT 33 [.agg [.int .i64 k, .int .i64 m], .int .i64 q, .int .i64 c] σ = some (.tup [.str (outR k m c q), .int .i64 (endR k m c q : Nat)], σ) := v33 k m c q hk hm6 (by omega) hq σ _ rfl
      simp [xI_seq, xI_region, xI_ret, regA, regOps, runOps, opStep, wantedA, opA, evo, evos, calleeA, lk, nif_eq, putE, paramsE, valS, val2, keepE, restrict, finA, resA, binA, binInt, ofConst, ofConst1, loadA, TK.isAgg, asVar, unA, builtinA, lenOpA, lenA, ileb_cast, ileb_eq, ieqb_dec, indexAddrA, inB_dec, evPairs, storeA, AV.cellsOf, pairsOf, xI_nil, binBool, gcE, evOpt, tagZ, xI_block, xI_loopH, xI_condM, xI_exitM, xI_skip, xI_blk, exitA, ty4, ty39, runTr, pairsOk, pairOk, lstAt, lastOf, sameVal, AV.eqv, eqvs, eqvs_ints, regOps, blt_dec, cond_true, cond_false, fieldAddrA, allOne, AV.one, n_push, ty2, ty39, hσ, hcp, h, hi, e1]

theorem w5 (w t s n : Int) : FnV TT 5 [.agg [.int .i64 w, .int .i64 t], .int .i64 s, .int .i64 n] (.bool true) := by
  refine FnV.mk fn5 rfl md5 ?_ (fun _ => rfl) rfl
  rw [fi5]
  have hto : ∀ σ : St, callI TT 16 [.agg [.int .i64 w, .int .i64 t]] σ = some (.agg [.int .i64 w, .int .i64 t], σ) := fun σ => v16 w t σ _ rfl
  have hS : ∀ σ : St, callI TT 15 [.agg [.int .i64 w, .int .i64 t], .int .i64 s, .int .i64 n] σ = some (.tup [.str (rbV w t s n), .bool (rbOk w t s n)], σ) := fun σ => v15 w t s n σ _ rfl
  have hI : ∀ σ : St, callI TT 17 [.agg [.int .i64 w, .int .i64 t], .int .i64 s, .int .i64 n] σ = some (.tup [.str (rbV w t s n), .bool (rbOk w t s n)], σ) := fun σ => v17 w t s n σ _ rfl
  generalize rbOk w t s n = b at *
  have hT4 := ty4
  cases b <;> simp [xI_seq, xI_region, xI_ret, regA, regOps, runOps, opStep, wantedA, opA, evo, evos, calleeA, lk, nif_eq, putE, paramsE, valS, val2, keepE, restrict, finA, resA, binA, binInt, ofConst, ofConst1, loadA, TK.isAgg, asVar, unA, builtinA, lenOpA, lenA, ileb_cast, ileb_eq, ieqb_dec, indexAddrA, inB_dec, evPairs, storeA, AV.cellsOf, pairsOf, xI_nil, binBool, gcE, evOpt, tagZ, xI_block, xI_loopH, xI_condM, xI_exitM, xI_skip, xI_blk, exitA, ty4, ty9, ty36, cellsAt, getCells, takeN, dropN, fieldAddrA, allOne, AV.one, n_push, storeCellsA, putN, overN, ty2, ty39, St.push, St.get, St.set, hget, hset, runTr, pairsOk, pairOk, lstAt, lastOf, sameVal, AV.eqv, eqvs, eqvs_ints, regOps, blt_dec, cond_true, cond_false, ty36, ty4, hto, hS, hI, bsne]

end Go.Proofs.Ythkdbkjkccogfaa
