/- Contracts and law: tempered words. Nothing is claimed here; no condition. -/
import Derived.Test.YthkdbkjkccogfaaGc
import Derived.Test.YthkdbkjkccogfaaGf
import Derived.Test.YthkdbkjkccogfaaWx
namespace Go.Proofs.Ythkdbkjkccogfaa
open Go Go.Abs
set_option linter.unusedSimpArgs false
set_option linter.unusedVariables false
open Go.Wd
def vtem (a b c d e f : Int) : Bool := (inR a 1 16 && inR b 1 16 && inR d 1 16 && inR f 1 16) && (inR c 0 65535 && inR e 0 65535)
def vword (a b c d e f y : Int) : Bool := vtem a b c d e f && inR y 0 65535
/-- What becomes of a word. -/
def tw (a b c d e f y : Nat) : Nat :=
  let y1 := xorN y (shrN y a)
  let y2 := xorN y1 (andN (shlN y1 b) c)
  let y3 := xorN y2 (andN (shlN y2 d) e)
  xorN y3 (shrN y3 f)
def twI (a b c d e f y : Int) : Int := if vword a b c d e f y = true then (tw a.toNat b.toNat c.toNat d.toNat e.toNat f.toNat y.toNat : Nat) else 0
theorem twI_no {a b c d e f y : Int} (h : vword a b c d e f y = false) : twI a b c d e f y = 0 := by simp [twI, h]
theorem twI_yes {a b c d e f y : Nat} (h : vword a b c d e f y = true) : twI a b c d e f y = (tw a b c d e f y : Nat) := by simp [twI, h]
theorem word_nat {a b c d e f y : Int} (h : vword a b c d e f y = true) : ∃ a' b' c' d' e' f' y' : Nat, a = a' ∧ b = b' ∧ c = c' ∧ d = d' ∧ e = e' ∧ f = f' ∧ y = y' ∧ 1 ≤ a' ∧ a' ≤ 16 ∧ 1 ≤ b' ∧ b' ≤ 16 ∧ c' ≤ 65535 ∧ 1 ≤ d' ∧ d' ≤ 16 ∧ e' ≤ 65535 ∧ 1 ≤ f' ∧ f' ≤ 16 ∧ y' ≤ 65535 := by
  simp only [vword, vtem, Bool.and_eq_true] at h
  obtain ⟨⟨⟨⟨⟨h1, h2⟩, h3⟩, h4⟩, h5, h6⟩, h7⟩ := h
  have h1 := inR_iff.1 h1
  have h2 := inR_iff.1 h2
  have h3 := inR_iff.1 h3
  have h4 := inR_iff.1 h4
  have h5 := inR_iff.1 h5
  have h6 := inR_iff.1 h6
  have h7 := inR_iff.1 h7
  exact ⟨a.toNat, b.toNat, c.toNat, d.toNat, e.toNat, f.toNat, y.toNat, by omega, by omega, by omega, by omega, by omega, by omega, by omega, by omega, by omega, by omega, by omega, by omega, by omega, by omega, by omega, by omega, by omega, by omega⟩
theorem c19 (n : Int) (σ : St) : callI TT 19 [.int .i64 n] σ = some (.bool (inR n 0 65535), σ) := by
  refine (FnV.mk (args' := [.int .i64 n]) fn19 rfl md19 ⟨⟨[], 0⟩, ?_⟩ (fun _ => rfl) rfl) σ _ rfl
  have h := c29 n 0 65535 ⟨[], 0⟩
  rw [fi19]
  simp [xI_seq, xI_region, xI_ret, regA, regOps, runOps, opStep, wantedA, opA, evo, evos, calleeA, lk, nif_eq, putE, paramsE, valS, val2, keepE, restrict, finA, resA, binA, binInt, ofConst, ofConst1, loadA, TK.isAgg, asVar, unA, builtinA, lenOpA, lenA, ileb_cast, ileb_eq, ieqb_dec, indexAddrA, inB_dec, evPairs, storeA, AV.cellsOf, pairsOf, xI_nil, binBool, gcE, evOpt, tagZ, xI_block, xI_loopH, xI_condM, xI_exitM, xI_skip, xI_blk, exitA, h]
theorem xor_16 {a b : Nat} (ha : a ≤ 65535) (hb : b ≤ 65535) : xorN a b ≤ 65535 := by
  have : xorN a b < 2 ^ 16 := Nat.xor_lt_two_pow (by omega) (by omega)
  omega

theorem c18 (a b c d e f : Int) (σ : St) (q : Nat) (x : Blk) (hb : σ.get q = some x) (hx : x.cells = tem a b c d e f) : callI TT 18 [.ptr q 0] σ = some (.bool (vtem a b c d e f), σ) := by
  simp only [tem] at hx
  have hc0 : cellsAt σ (.ptr q 0) 1 = some [.int .i64 a] := by simp [cellsAt, hb, hx, getCells, takeN, dropN]
  have hc1 : cellsAt σ (.ptr q 1) 1 = some [.int .i64 b] := by simp [cellsAt, hb, hx, getCells, takeN, dropN]
  have hc2 : cellsAt σ (.ptr q 2) 1 = some [.int .i64 c] := by simp [cellsAt, hb, hx, getCells, takeN, dropN]
  have hc3 : cellsAt σ (.ptr q 3) 1 = some [.int .i64 d] := by simp [cellsAt, hb, hx, getCells, takeN, dropN]
  have hc4 : cellsAt σ (.ptr q 4) 1 = some [.int .i64 e] := by simp [cellsAt, hb, hx, getCells, takeN, dropN]
  have hc5 : cellsAt σ (.ptr q 5) 1 = some [.int .i64 f] := by simp [cellsAt, hb, hx, getCells, takeN, dropN]
  have ha := c29 a 1 16 σ
  have hb := c29 b 1 16 σ
  have hd := c29 d 1 16 σ
  have hf := c29 f 1 16 σ
  have hc := c19 c σ
  have he := c19 e σ
  rw [cI_0 fn18 rfl md18, fi18]
  cases ka : inR a 1 16 with
  | false =>
    rw [ka] at ha
    simp [xI_seq, xI_region, xI_ret, regA, regOps, runOps, opStep, wantedA, opA, evo, evos, calleeA, lk, nif_eq, putE, paramsE, valS, val2, keepE, restrict, finA, resA, binA, binInt, ofConst, ofConst1, loadA, TK.isAgg, asVar, unA, builtinA, lenOpA, lenA, ileb_cast, ileb_eq, ieqb_dec, indexAddrA, inB_dec, evPairs, storeA, AV.cellsOf, pairsOf, xI_nil, binBool, gcE, evOpt, tagZ, xI_block, xI_loopH, xI_condM, xI_exitM, xI_skip, xI_blk, exitA, ty2, ty26, fieldAddrA, ty2, ty26, hc0, hc1, hc2, hc3, hc4, hc5, ha]
    simp [vtem, ka]
  | true =>
    rw [ka] at ha
    cases kb : inR b 1 16 with
    | false =>
      rw [kb] at hb
      simp [xI_seq, xI_region, xI_ret, regA, regOps, runOps, opStep, wantedA, opA, evo, evos, calleeA, lk, nif_eq, putE, paramsE, valS, val2, keepE, restrict, finA, resA, binA, binInt, ofConst, ofConst1, loadA, TK.isAgg, asVar, unA, builtinA, lenOpA, lenA, ileb_cast, ileb_eq, ieqb_dec, indexAddrA, inB_dec, evPairs, storeA, AV.cellsOf, pairsOf, xI_nil, binBool, gcE, evOpt, tagZ, xI_block, xI_loopH, xI_condM, xI_exitM, xI_skip, xI_blk, exitA, ty2, ty26, fieldAddrA, ty2, ty26, hc0, hc1, hc2, hc3, hc4, hc5, ha, hb]
      simp [vtem, ka, kb]
    | true =>
      rw [kb] at hb
      cases kd : inR d 1 16 with
      | false =>
        rw [kd] at hd
        simp [xI_seq, xI_region, xI_ret, regA, regOps, runOps, opStep, wantedA, opA, evo, evos, calleeA, lk, nif_eq, putE, paramsE, valS, val2, keepE, restrict, finA, resA, binA, binInt, ofConst, ofConst1, loadA, TK.isAgg, asVar, unA, builtinA, lenOpA, lenA, ileb_cast, ileb_eq, ieqb_dec, indexAddrA, inB_dec, evPairs, storeA, AV.cellsOf, pairsOf, xI_nil, binBool, gcE, evOpt, tagZ, xI_block, xI_loopH, xI_condM, xI_exitM, xI_skip, xI_blk, exitA, ty2, ty26, fieldAddrA, ty2, ty26, hc0, hc1, hc2, hc3, hc4, hc5, ha, hb, hd]
        simp [vtem, ka, kb, kd]
      | true =>
        rw [kd] at hd
        cases kf : inR f 1 16 with
        | false =>
          rw [kf] at hf
          simp [xI_seq, xI_region, xI_ret, regA, regOps, runOps, opStep, wantedA, opA, evo, evos, calleeA, lk, nif_eq, putE, paramsE, valS, val2, keepE, restrict, finA, resA, binA, binInt, ofConst, ofConst1, loadA, TK.isAgg, asVar, unA, builtinA, lenOpA, lenA, ileb_cast, ileb_eq, ieqb_dec, indexAddrA, inB_dec, evPairs, storeA, AV.cellsOf, pairsOf, xI_nil, binBool, gcE, evOpt, tagZ, xI_block, xI_loopH, xI_condM, xI_exitM, xI_skip, xI_blk, exitA, ty2, ty26, fieldAddrA, ty2, ty26, hc0, hc1, hc2, hc3, hc4, hc5, ha, hb, hd, hf]
          simp [vtem, ka, kb, kd, kf]
        | true =>
          rw [kf] at hf
          cases kc : inR c 0 65535 with
          | false =>
            rw [kc] at hc
            simp [xI_seq, xI_region, xI_ret, regA, regOps, runOps, opStep, wantedA, opA, evo, evos, calleeA, lk, nif_eq, putE, paramsE, valS, val2, keepE, restrict, finA, resA, binA, binInt, ofConst, ofConst1, loadA, TK.isAgg, asVar, unA, builtinA, lenOpA, lenA, ileb_cast, ileb_eq, ieqb_dec, indexAddrA, inB_dec, evPairs, storeA, AV.cellsOf, pairsOf, xI_nil, binBool, gcE, evOpt, tagZ, xI_block, xI_loopH, xI_condM, xI_exitM, xI_skip, xI_blk, exitA, ty2, ty26, fieldAddrA, ty2, ty26, hc0, hc1, hc2, hc3, hc4, hc5, ha, hb, hd, hf, hc]
            simp [vtem, ka, kb, kd, kf, kc]
          | true =>
            rw [kc] at hc
            cases ke : inR e 0 65535 with
            | false =>
              rw [ke] at he
              simp [xI_seq, xI_region, xI_ret, regA, regOps, runOps, opStep, wantedA, opA, evo, evos, calleeA, lk, nif_eq, putE, paramsE, valS, val2, keepE, restrict, finA, resA, binA, binInt, ofConst, ofConst1, loadA, TK.isAgg, asVar, unA, builtinA, lenOpA, lenA, ileb_cast, ileb_eq, ieqb_dec, indexAddrA, inB_dec, evPairs, storeA, AV.cellsOf, pairsOf, xI_nil, binBool, gcE, evOpt, tagZ, xI_block, xI_loopH, xI_condM, xI_exitM, xI_skip, xI_blk, exitA, ty2, ty26, fieldAddrA, ty2, ty26, hc0, hc1, hc2, hc3, hc4, hc5, ha, hb, hd, hf, hc, he]
              simp [vtem, ka, kb, kd, kf, kc, ke]
            | true =>
              rw [ke] at he
              simp [xI_seq, xI_region, xI_ret, regA, regOps, runOps, opStep, wantedA, opA, evo, evos, calleeA, lk, nif_eq, putE, paramsE, valS, val2, keepE, restrict, finA, resA, binA, binInt, ofConst, ofConst1, loadA, TK.isAgg, asVar, unA, builtinA, lenOpA, lenA, ileb_cast, ileb_eq, ieqb_dec, indexAddrA, inB_dec, evPairs, storeA, AV.cellsOf, pairsOf, xI_nil, binBool, gcE, evOpt, tagZ, xI_block, xI_loopH, xI_condM, xI_exitM, xI_skip, xI_blk, exitA, ty2, ty26, fieldAddrA, ty2, ty26, hc0, hc1, hc2, hc3, hc4, hc5, ha, hb, hd, hf, hc, he]
              simp [vtem, ka, kb, kd, kf, kc, ke]
theorem bs4 (σ : St) (x y z w : Int) : buildSliceA TT σ 58 4 [(0, .int .i64 x), (1, .int .i64 y), (2, .int .i64 z), (3, .int .i64 w)] = some (.sl σ.n 0 4 4, σ.push ⟨ints [x, y, z, w], 1, false⟩) := by
  simp [buildSliceA, ty58, ty2, fillA, repeatCells, putCells, AV.cellsOf, allOne, AV.one, ints]
theorem bs2 (σ : St) (x y : Int) : buildSliceA TT σ 58 2 [(0, .int .i64 x), (1, .int .i64 y)] = some (.sl σ.n 0 2 2, σ.push ⟨ints [x, y], 1, false⟩) := by
  simp [buildSliceA, ty58, ty2, fillA, repeatCells, putCells, AV.cellsOf, allOne, AV.one, ints]
theorem v14 (a b c d e f : Int) : FnV TT 14 [.agg (tem a b c d e f)] (.bool (vtem a b c d e f)) := by
  refine FnV.mk fn14 rfl md14 ?_ (fun _ => rfl) rfl
  obtain ⟨σ, hσ⟩ : ∃ σ, (⟨[], 0⟩ : St).push ⟨tem a b c d e f, 6, false⟩ = σ := ⟨_, rfl⟩
  have hc0 : cellsAt σ (.ptr 0 0) 1 = some [.int .i64 a] := by subst hσ; rfl
  have hc1 : cellsAt σ (.ptr 0 1) 1 = some [.int .i64 b] := by subst hσ; rfl
  have hc2 : cellsAt σ (.ptr 0 2) 1 = some [.int .i64 c] := by subst hσ; rfl
  have hc3 : cellsAt σ (.ptr 0 3) 1 = some [.int .i64 d] := by subst hσ; rfl
  have hc4 : cellsAt σ (.ptr 0 4) 1 = some [.int .i64 e] := by subst hσ; rfl
  have hc5 : cellsAt σ (.ptr 0 5) 1 = some [.int .i64 f] := by subst hσ; rfl
  have hg : σ.get 0 = some ⟨tem a b c d e f, 6, false⟩ := by subst hσ; rfl
  have hn : σ.n = 1 := by subst hσ; rfl
  obtain ⟨σ1, h1⟩ : ∃ σ1, σ.push ⟨ints [a, b, d, f], 1, false⟩ = σ1 := ⟨_, rfl⟩
  have hn1 : σ1.n = 2 := by subst h1; rw [n_push, hn]
  have e1 : callI TT 27 [.sl σ.n 0 4 4, .int .i64 1, .int .i64 16] σ1 = some (.bool (allR [a, b, d, f] 1 16), σ1) := v27 [a, b, d, f] 4 rfl (by decide) 1 16 σ1 _ (mapO_cons (by subst h1; exact frzV_sl (l := [a, b, d, f]) (o := false) get_push_same rfl (Nat.le_refl _)) rfl)
  have d2 : cellsAt σ1 (.ptr 0 2) 1 = some [.int .i64 c] := by rw [← hc2]; subst h1; simp only [cellsAt]; rw [get_push_lt (by omega)]
  have d4 : cellsAt σ1 (.ptr 0 4) 1 = some [.int .i64 e] := by rw [← hc4]; subst h1; simp only [cellsAt]; rw [get_push_lt (by omega)]
  obtain ⟨σ2, h2⟩ : ∃ σ2, σ1.push ⟨ints [c, e], 1, false⟩ = σ2 := ⟨_, rfl⟩
  have e2 : callI TT 27 [.sl σ1.n 0 2 2, .int .i64 0, .int .i64 65535] σ2 = some (.bool (allR [c, e] 0 65535), σ2) := v27 [c, e] 2 rfl (by decide) 0 65535 σ2 _ (mapO_cons (by subst h2; exact frzV_sl (l := [c, e]) (o := false) get_push_same rfl (Nat.le_refl _)) rfl)
  rw [show allR [a, b, d, f] 1 16 = (inR a 1 16 && inR b 1 16 && inR d 1 16 && inR f 1 16) by simp [allR, Bool.and_assoc]] at e1
  rw [show allR [c, e] 0 65535 = (inR c 0 65535 && inR e 0 65535) by simp [allR]] at e2
  rw [fi14]
  unfold vtem
  cases hk : (inR a 1 16 && inR b 1 16 && inR d 1 16 && inR f 1 16) with
  | false =>
    rw [hk] at e1
    simp only [tem] at hσ ⊢
    simp [xI_seq, xI_region, xI_ret, regA, regOps, runOps, opStep, wantedA, opA, evo, evos, calleeA, lk, nif_eq, putE, paramsE, valS, val2, keepE, restrict, finA, resA, binA, binInt, ofConst, ofConst1, loadA, TK.isAgg, asVar, unA, builtinA, lenOpA, lenA, ileb_cast, ileb_eq, ieqb_dec, indexAddrA, inB_dec, evPairs, storeA, AV.cellsOf, pairsOf, xI_nil, binBool, gcE, evOpt, tagZ, xI_block, xI_loopH, xI_condM, xI_exitM, xI_skip, xI_blk, exitA, ty2, ty26, ty58, fieldAddrA, allOne, AV.one, n_push, ty2, ty26, hc0, hc1, hc2, hc3, hc4, hc5, bs4, hσ, h1, e1]
  | true =>
    rw [hk] at e1
    simp only [tem] at hσ ⊢
    simp [xI_seq, xI_region, xI_ret, regA, regOps, runOps, opStep, wantedA, opA, evo, evos, calleeA, lk, nif_eq, putE, paramsE, valS, val2, keepE, restrict, finA, resA, binA, binInt, ofConst, ofConst1, loadA, TK.isAgg, asVar, unA, builtinA, lenOpA, lenA, ileb_cast, ileb_eq, ieqb_dec, indexAddrA, inB_dec, evPairs, storeA, AV.cellsOf, pairsOf, xI_nil, binBool, gcE, evOpt, tagZ, xI_block, xI_loopH, xI_condM, xI_exitM, xI_skip, xI_blk, exitA, ty2, ty26, ty58, fieldAddrA, allOne, AV.one, n_push, ty2, ty26, hc0, hc1, hc2, hc3, hc4, hc5, bs4, bs2, hσ, h1, e1, d2, d4, h2, e2]

theorem v21 (a b c d e f y : Int) : FnV TT 21 [.agg (tem a b c d e f), .int .i64 y] (.bool (vword a b c d e f y)) := by
  refine FnV.mk fn21 rfl md21 ?_ (fun _ => rfl) rfl
  obtain ⟨σ, hσ⟩ : ∃ σ, (⟨[], 0⟩ : St).push ⟨tem a b c d e f, 6, false⟩ = σ := ⟨_, rfl⟩
  have hall : cellsAt σ (.ptr 0 0) 6 = some (tem a b c d e f) := by subst hσ; rfl
  have h : callI TT 14 [.agg (tem a b c d e f)] σ = some (.bool (vtem a b c d e f), σ) := v14 a b c d e f σ _ rfl
  have hi := c32 y 0 65535 σ
  rw [fi21]
  simp only [tem] at hσ hall h ⊢
  cases h1 : vtem a b c d e f with
  | false =>
    rw [h1] at h
    simp [xI_seq, xI_region, xI_ret, regA, regOps, runOps, opStep, wantedA, opA, evo, evos, calleeA, lk, nif_eq, putE, paramsE, valS, val2, keepE, restrict, finA, resA, binA, binInt, ofConst, ofConst1, loadA, TK.isAgg, asVar, unA, builtinA, lenOpA, lenA, ileb_cast, ileb_eq, ieqb_dec, indexAddrA, inB_dec, evPairs, storeA, AV.cellsOf, pairsOf, xI_nil, binBool, gcE, evOpt, tagZ, xI_block, xI_loopH, xI_condM, xI_exitM, xI_skip, xI_blk, exitA, ty26, allOne, AV.one, n_push, ty26, hσ, hall, h]
    simp [vword, h1]
  | true =>
    rw [h1] at h
    simp [xI_seq, xI_region, xI_ret, regA, regOps, runOps, opStep, wantedA, opA, evo, evos, calleeA, lk, nif_eq, putE, paramsE, valS, val2, keepE, restrict, finA, resA, binA, binInt, ofConst, ofConst1, loadA, TK.isAgg, asVar, unA, builtinA, lenOpA, lenA, ileb_cast, ileb_eq, ieqb_dec, indexAddrA, inB_dec, evPairs, storeA, AV.cellsOf, pairsOf, xI_nil, binBool, gcE, evOpt, tagZ, xI_block, xI_loopH, xI_condM, xI_exitM, xI_skip, xI_blk, exitA, ty26, allOne, AV.one, n_push, ty26, hσ, hall, h, hi]
    simp [vword, h1]

theorem v24d (y k : Nat) (hy : y ≤ 65535) (hk : k ≤ 16) (h1 : 1 ≤ k) : FnV TT 24 [.int .i64 y, .int .i64 (-(k : Int)), .int .i64 65535] (.int .i64 (shrN y k : Nat)) := by
  refine FnV.mk fn24 rfl md24 ⟨⟨[], 0⟩, ?_⟩ (fun _ => rfl) rfl
  have ls : shrN y k ≤ y := Nat.div_le_self _ _
  have s1 := sh_r (a := y) (b := k) (by omega)
  have n1 : wrapA .i64 (k : Int) = k := n_wrap (by omega)
  have c1 : -(k : Int) < 0 := by omega
  have c2 : 0 < k := by omega
  have c3 : ¬ k = 0 := by omega
  have x1 : bitsA .and .i64 ((shrN y k : Nat) : Int) 65535 = some (.int .i64 ((shrN y k : Nat) : Int)) := by
    have h := w_and .i64 (a := shrN y k) (b := 65535) (by simp only [topOf]; omega) (by decide)
    rw [and_word, Nat.mod_eq_of_lt (by omega)] at h
    exact h
  rw [fi24]
  simp [xI_seq, xI_region, xI_ret, regA, regOps, runOps, opStep, wantedA, opA, evo, evos, calleeA, lk, nif_eq, putE, paramsE, valS, val2, keepE, restrict, finA, resA, binA, binInt, ofConst, ofConst1, loadA, TK.isAgg, asVar, unA, builtinA, lenOpA, lenA, ileb_cast, ileb_eq, ieqb_dec, indexAddrA, inB_dec, evPairs, storeA, AV.cellsOf, pairsOf, xI_nil, binBool, gcE, evOpt, tagZ, xI_block, xI_loopH, xI_condM, xI_exitM, xI_skip, xI_blk, exitA, ty2, s1, n1, c1, c2, c3, x1]
theorem v24u (y k m : Nat) (hy : y ≤ 65535) (hk : k ≤ 16) (hm : m ≤ 65535) : FnV TT 24 [.int .i64 y, .int .i64 k, .int .i64 m] (.int .i64 (andN (shlN y k) m : Nat)) := by
  refine FnV.mk fn24 rfl md24 ⟨⟨[], 0⟩, ?_⟩ (fun _ => rfl) rfl
  have lm : y * 2 ^ k ≤ 65535 * 65536 := Nat.mul_le_mul hy (Nat.pow_le_pow_right (by decide) hk)
  have la : andN (shlN y k) m ≤ m := Nat.and_le_right
  have s1 := sh_l (a := y) (b := k) (by omega) (by omega)
  have t1 := n_and (a := shlN y k) (b := m) (by show y * 2 ^ k ≤ _; omega) (by omega)
  have x1 : bitsA .and .i64 ((andN (shlN y k) m : Nat) : Int) 65535 = some (.int .i64 ((andN (shlN y k) m : Nat) : Int)) := by
    have h := w_and .i64 (a := andN (shlN y k) m) (b := 65535) (by simp only [topOf]; omega) (by decide)
    rw [and_word, Nat.mod_eq_of_lt (by omega)] at h
    exact h
  have c1 : ¬ (k : Int) < 0 := by omega
  rw [fi24]
  simp [xI_seq, xI_region, xI_ret, regA, regOps, runOps, opStep, wantedA, opA, evo, evos, calleeA, lk, nif_eq, putE, paramsE, valS, val2, keepE, restrict, finA, resA, binA, binInt, ofConst, ofConst1, loadA, TK.isAgg, asVar, unA, builtinA, lenOpA, lenA, ileb_cast, ileb_eq, ieqb_dec, indexAddrA, inB_dec, evPairs, storeA, AV.cellsOf, pairsOf, xI_nil, binBool, gcE, evOpt, tagZ, xI_block, xI_loopH, xI_condM, xI_exitM, xI_skip, xI_blk, exitA, ty2, s1, t1, c1, x1]

/-- The moves. -/
def mvs (a b c d e f : Nat) : List AV := [.int .i64 (-(a : Int)), .int .i64 65535, .int .i64 b, .int .i64 c, .int .i64 d, .int .i64 e, .int .i64 (-(f : Int)), .int .i64 65535]
theorem v22 (a b c d e f : Nat) (ha : a ≤ 16) (hf : f ≤ 16) : FnV TT 22 [.agg (tem a b c d e f)] (.agg (mvs a b c d e f)) := by
  have h1 : wrapA .i64 (-(a : Int)) = -(a : Int) := wrapA_id (by omega) (by omega)
  have h2 : wrapA .i64 (-(f : Int)) = -(f : Int) := wrapA_id (by omega) (by omega)
  refine FnV.mk fn22 rfl md22 ?_ (fun _ => rfl) rfl
  rw [fi22]
  simp only [tem, mvs]
  simp [xI_seq, xI_region, xI_ret, regA, regOps, runOps, opStep, wantedA, opA, evo, evos, calleeA, lk, nif_eq, putE, paramsE, valS, val2, keepE, restrict, finA, resA, binA, binInt, ofConst, ofConst1, loadA, TK.isAgg, asVar, unA, builtinA, lenOpA, lenA, ileb_cast, ileb_eq, ieqb_dec, indexAddrA, inB_dec, evPairs, storeA, AV.cellsOf, pairsOf, xI_nil, binBool, gcE, evOpt, tagZ, xI_block, xI_loopH, xI_condM, xI_exitM, xI_skip, xI_blk, exitA, ty2, ty26, ty47, ty48, cellsAt, getCells, takeN, dropN, fieldAddrA, allOne, AV.one, n_push, storeCellsA, putN, overN, ty2, ty33, ty38, ty41, St.push, St.get, St.set, hget, hset, buildA, sizesOf, fillA, putCells, repeatCells, ty26, ty47, ty48, h1, h2]
theorem boxed2 (σ : St) (a b x y : AV) (h : allOne [x, y] = true) : ∃ σ', storeCellsA (σ.push ⟨[a, b], 2, false⟩) σ.n 0 [x, y] = some σ' ∧ cellsAt σ' (.ptr σ.n 0) 1 = some [x] ∧ cellsAt σ' (.ptr σ.n 1) 1 = some [y] := by
  refine ⟨(σ.push ⟨[a, b], 2, false⟩).set σ.n ⟨[x, y], 2, false⟩, ?_, ?_, ?_⟩
  · simp [storeCellsA, get_push_same, h, putN, overN]
  · simp [cellsAt, get_set_eq (get_push_same), getCells, takeN, dropN]
  · simp [cellsAt, get_set_eq (get_push_same), getCells, takeN, dropN]

noncomputable def b13 : Code := Try.f13.body.getD .skip
noncomputable def B13_0 : Code := (bodyC (bodyC (sndC (fstC (sndC (sndC b13))))))
noncomputable def K13_0 : List It := .lp B13_0 :: .blk 0 :: .code (sndC (sndC (sndC b13))) :: []
theorem xl13_0 {fi : FI} {env : Env} {σ : St} : exI TT fi K13_0 env σ = exI TT fi (.code B13_0 :: K13_0) env σ := by unfold K13_0; exact xI_lp
noncomputable def R13_0_0 : List It := .code (sndC (sndC (sndC b13))) :: []
theorem eK13_0_0 : exitA 0 K13_0 = some R13_0_0 := rfl
theorem l13 (L : List AV) (hL : L.length = 8) (i y z : Nat) (by_ m : Int) (hi : i < 4) (hy : y ≤ 65535) (hz : z ≤ 65535) (hg : getCells L (i * 2) 2 = some [.int .i64 by_, .int .i64 m]) (hm : ∀ σ : St, callI TT 24 [.int .i64 y, .int .i64 by_, .int .i64 m] σ = some (.int .i64 z, σ)) (σ : St) :
    ∃ σ', exI TT (FI.of Try.f13 (TT.an 13)) K13_0 [(1, .int .i64 y), (13, .agg L), (14, .int .i64 i)] σ = exI TT (FI.of Try.f13 (TT.an 13)) K13_0 [(1, .int .i64 (xorN y z : Nat)), (13, .agg L), (14, .int .i64 ((i : Int) + 1))] σ' := by
  obtain ⟨σ', s1, q0, q1⟩ := boxed2 σ (.int .i64 0) (.int .i64 0) (.int .i64 by_) (.int .i64 m) rfl
  have x1 := n_xor (a := y) (b := z) (by omega) (by omega)
  have hw := wrapS (n := i) (by omega)
  have h1 : ¬ 4 ≤ i := by omega
  have h2 : (i : Int) < 4 := by omega
  have hm' := hm σ'
  refine ⟨σ', ?_⟩
  conv => lhs; rw [fi13, xl13_0]; simp only [B13_0, b13, Try.f13, Option.getD, fstC, sndC, bodyC, thnC, elsC]
  rw [fi13]
  simp [xI_seq, xI_region, xI_ret, regA, regOps, runOps, opStep, wantedA, opA, evo, evos, calleeA, lk, nif_eq, putE, paramsE, valS, val2, keepE, restrict, finA, resA, binA, binInt, ofConst, ofConst1, loadA, TK.isAgg, asVar, unA, builtinA, lenOpA, lenA, ileb_cast, ileb_eq, ieqb_dec, indexAddrA, inB_dec, evPairs, storeA, AV.cellsOf, pairsOf, xI_nil, binBool, gcE, evOpt, tagZ, xI_block, xI_loopH, xI_condM, xI_exitM, xI_skip, xI_blk, exitA, ty2, ty3, ty4, ty26, ty47, ty48, eK13_0_0, indexA, partA, indexAddrA, repeatCells, ty47, ty48, ty2, allOne, AV.one, hi, h1, h2, hg, hL, s1, q0, q1, hm', x1, hw]

theorem v13 (a b c d e f y : Int) : FnV TT 13 [.agg (tem a b c d e f), .int .i64 y] (.tup [.int .i64 (twI a b c d e f y), .bool (vword a b c d e f y)]) := by
  refine FnV.mk fn13 rfl md13 ?_ (fun _ => rfl) rfl
  obtain ⟨σ, hσ⟩ : ∃ σ, (⟨[], 0⟩ : St).push ⟨tem a b c d e f, 6, false⟩ = σ := ⟨_, rfl⟩
  have hall : cellsAt σ (.ptr 0 0) 6 = some (tem a b c d e f) := by subst hσ; rfl
  have h : callI TT 21 [.agg (tem a b c d e f), .int .i64 y] σ = some (.bool (vword a b c d e f y), σ) := v21 a b c d e f y σ _ rfl
  cases hv : vword a b c d e f y with
  | false =>
    rw [twI_no hv, fi13]
    rw [hv] at h
    simp only [tem] at hσ hall h ⊢
    simp [xI_seq, xI_region, xI_ret, regA, regOps, runOps, opStep, wantedA, opA, evo, evos, calleeA, lk, nif_eq, putE, paramsE, valS, val2, keepE, restrict, finA, resA, binA, binInt, ofConst, ofConst1, loadA, TK.isAgg, asVar, unA, builtinA, lenOpA, lenA, ileb_cast, ileb_eq, ieqb_dec, indexAddrA, inB_dec, evPairs, storeA, AV.cellsOf, pairsOf, xI_nil, binBool, gcE, evOpt, tagZ, xI_block, xI_loopH, xI_condM, xI_exitM, xI_skip, xI_blk, exitA, ty2, ty3, ty4, ty26, ty47, ty48, eK13_0_0, allOne, AV.one, n_push, ty26, hσ, hall, h]
  | true =>
    rw [hv] at h
    obtain ⟨a, b, c, d, e, f, y, rfl, rfl, rfl, rfl, rfl, rfl, rfl, a1, a2, b1, b2, c2, d1, d2, e2, f1, f2, y2⟩ := word_nat hv
    rw [twI_yes hv]
    have hM : callI TT 22 [.agg (tem a b c d e f)] σ = some (.agg (mvs a b c d e f), σ) := v22 a b c d e f a2 f2 σ _ rfl
    obtain ⟨z0, hz0⟩ : ∃ z, z = shrN y a := ⟨_, rfl⟩
    have ls1 : shrN y a ≤ y := Nat.div_le_self _ _
    have m0 : ∀ σ : St, callI TT 24 [.int .i64 y, .int .i64 (-(a : Int)), .int .i64 65535] σ = some (.int .i64 z0, σ) := fun σ => by rw [hz0]; exact v24d y a y2 a2 a1 σ _ rfl
    obtain ⟨y1, hy1⟩ : ∃ y1, y1 = xorN y z0 := ⟨_, rfl⟩
    have l1 : y1 ≤ 65535 := by rw [hy1]; exact xor_16 y2 (by omega)
    obtain ⟨z1, hz1⟩ : ∃ z, z = andN (shlN y1 b) c := ⟨_, rfl⟩
    have la2 : andN (shlN y1 b) c ≤ c := Nat.and_le_right
    have m1 : ∀ σ : St, callI TT 24 [.int .i64 y1, .int .i64 b, .int .i64 c] σ = some (.int .i64 z1, σ) := fun σ => by rw [hz1]; exact v24u y1 b c l1 b2 c2 σ _ rfl
    obtain ⟨y2', hy2⟩ : ∃ y2', y2' = xorN y1 z1 := ⟨_, rfl⟩
    have l2 : y2' ≤ 65535 := by rw [hy2]; exact xor_16 l1 (by omega)
    obtain ⟨z2, hz2⟩ : ∃ z, z = andN (shlN y2' d) e := ⟨_, rfl⟩
    have la3 : andN (shlN y2' d) e ≤ e := Nat.and_le_right
    have m2 : ∀ σ : St, callI TT 24 [.int .i64 y2', .int .i64 d, .int .i64 e] σ = some (.int .i64 z2, σ) := fun σ => by rw [hz2]; exact v24u y2' d e l2 d2 e2 σ _ rfl
    obtain ⟨y3, hy3⟩ : ∃ y3, y3 = xorN y2' z2 := ⟨_, rfl⟩
    have l3 : y3 ≤ 65535 := by rw [hy3]; exact xor_16 l2 (by omega)
    obtain ⟨z3, hz3⟩ : ∃ z, z = shrN y3 f := ⟨_, rfl⟩
    have ls4 : shrN y3 f ≤ y3 := Nat.div_le_self _ _
    have m3 : ∀ σ : St, callI TT 24 [.int .i64 y3, .int .i64 (-(f : Int)), .int .i64 65535] σ = some (.int .i64 z3, σ) := fun σ => by rw [hz3]; exact v24d y3 f l3 f2 f1 σ _ rfl
    obtain ⟨σ1, g0⟩ := l13 (mvs a b c d e f) rfl 0 y z0 _ _ (by decide) y2 (by omega) rfl m0 σ
    obtain ⟨σ2, g1⟩ := l13 (mvs a b c d e f) rfl 1 y1 z1 _ _ (by decide) l1 (by omega) rfl m1 σ1
    obtain ⟨σ3, g2⟩ := l13 (mvs a b c d e f) rfl 2 y2' z2 _ _ (by decide) l2 (by omega) rfl m2 σ2
    obtain ⟨σ4, g3⟩ := l13 (mvs a b c d e f) rfl 3 y3 z3 _ _ (by decide) l3 (by omega) rfl m3 σ3
    rw [← hy1] at g0
    rw [← hy2] at g1
    rw [← hy3] at g2
    have g4 : exI TT (FI.of Try.f13 (TT.an 13)) K13_0 [(1, .int .i64 (xorN y3 z3 : Nat)), (13, .agg (mvs a b c d e f)), (14, .int .i64 4)] σ4 = some (.tup [.int .i64 (xorN y3 z3 : Nat), .bool true], σ4) := by
      rw [fi13]
      rw [xl13_0]
      simp only [B13_0, b13, Try.f13, Option.getD, fstC, sndC, bodyC, thnC, elsC]
      simp [xI_seq, xI_region, xI_ret, regA, regOps, runOps, opStep, wantedA, opA, evo, evos, calleeA, lk, nif_eq, putE, paramsE, valS, val2, keepE, restrict, finA, resA, binA, binInt, ofConst, ofConst1, loadA, TK.isAgg, asVar, unA, builtinA, lenOpA, lenA, ileb_cast, ileb_eq, ieqb_dec, indexAddrA, inB_dec, evPairs, storeA, AV.cellsOf, pairsOf, xI_nil, binBool, gcE, evOpt, tagZ, xI_block, xI_loopH, xI_condM, xI_exitM, xI_skip, xI_blk, exitA, ty2, ty3, ty4, ty26, ty47, ty48, eK13_0_0]
      simp only [R13_0_0, b13, Try.f13, Option.getD, fstC, sndC, bodyC, thnC, elsC]
      simp [xI_seq, xI_region, xI_ret, regA, regOps, runOps, opStep, wantedA, opA, evo, evos, calleeA, lk, nif_eq, putE, paramsE, valS, val2, keepE, restrict, finA, resA, binA, binInt, ofConst, ofConst1, loadA, TK.isAgg, asVar, unA, builtinA, lenOpA, lenA, ileb_cast, ileb_eq, ieqb_dec, indexAddrA, inB_dec, evPairs, storeA, AV.cellsOf, pairsOf, xI_nil, binBool, gcE, evOpt, tagZ, xI_block, xI_loopH, xI_condM, xI_exitM, xI_skip, xI_blk, exitA, ty2, ty3, ty4, ty26, ty47, ty48, eK13_0_0]
    have htw : tw a b c d e f y = xorN y3 z3 := by rw [hz3, hy3, hz2, hy2, hz1, hy1, hz0]; rfl
    have gg : exI TT (FI.of Try.f13 (TT.an 13)) K13_0 [(1, .int .i64 y), (13, .agg (mvs a b c d e f)), (14, .int .i64 0)] σ = some (.tup [.int .i64 (xorN y3 z3 : Nat), .bool true], σ4) := by
      refine g0.trans (Eq.trans ?_ (g1.trans (Eq.trans ?_ (g2.trans (Eq.trans ?_ (g3.trans (Eq.trans ?_ g4)))))))
      all_goals rfl
    rw [htw]
    refine ⟨σ4, ?_⟩
    rw [← gg, fi13]
    simp only [tem] at hσ hall h hM ⊢
    simp [xI_seq, xI_region, xI_ret, regA, regOps, runOps, opStep, wantedA, opA, evo, evos, calleeA, lk, nif_eq, putE, paramsE, valS, val2, keepE, restrict, finA, resA, binA, binInt, ofConst, ofConst1, loadA, TK.isAgg, asVar, unA, builtinA, lenOpA, lenA, ileb_cast, ileb_eq, ieqb_dec, indexAddrA, inB_dec, evPairs, storeA, AV.cellsOf, pairsOf, xI_nil, binBool, gcE, evOpt, tagZ, xI_block, xI_loopH, xI_condM, xI_exitM, xI_skip, xI_blk, exitA, ty2, ty3, ty4, ty26, ty47, ty48, eK13_0_0, allOne, AV.one, n_push, ty26, hσ, hall, h, hM]
    rfl

theorem v7 (a b c d e f : Int) : FnV TT 7 [.agg (tem a b c d e f)] (.agg (tem a b c d e f)) := by
  refine FnV.mk fn7 rfl md7 ?_ (fun _ => rfl) rfl
  rw [fi7]
  simp only [tem]
  simp [xI_seq, xI_region, xI_ret, regA, regOps, runOps, opStep, wantedA, opA, evo, evos, calleeA, lk, nif_eq, putE, paramsE, valS, val2, keepE, restrict, finA, resA, binA, binInt, ofConst, ofConst1, loadA, TK.isAgg, asVar, unA, builtinA, lenOpA, lenA, ileb_cast, ileb_eq, ieqb_dec, indexAddrA, inB_dec, evPairs, storeA, AV.cellsOf, pairsOf, xI_nil, binBool, gcE, evOpt, tagZ, xI_block, xI_loopH, xI_condM, xI_exitM, xI_skip, xI_blk, exitA, ty2, ty23, ty26, cellsAt, getCells, takeN, dropN, fieldAddrA, allOne, AV.one, n_push, storeCellsA, putN, overN, ty2, ty33, ty38, ty41, St.push, St.get, St.set, hget, hset, ty23, ty26]

end Go.Proofs.Ythkdbkjkccogfaa
