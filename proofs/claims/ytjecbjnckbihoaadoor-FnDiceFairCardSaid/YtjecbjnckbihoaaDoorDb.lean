/- Contracts: rolls by rejection and by dice. Nothing is claimed here; no condition. -/
import Derived.Test.YtjecbjnckbihoaaDoorDa
namespace Go.Proofs.YtjecbjnckbihoaaDoor
open Go Go.Abs
set_option linter.unusedSimpArgs false
set_option linter.unusedVariables false
open Go.Wd
open Go.Nm
noncomputable def b6 : Code := Tryd.f6.body.getD .skip
noncomputable def B6_0 : Code := (bodyC (bodyC (sndC (fstC (sndC (sndC b6))))))
noncomputable def K6_0 : List It := .lp B6_0 :: .blk 0 :: .code (sndC (sndC (sndC b6))) :: []
theorem xl6_0 {fi : FI} {env : Env} {σ : St} : exI TT fi K6_0 env σ = exI TT fi (.code B6_0 :: K6_0) env σ := by unfold K6_0; exact xI_lp
noncomputable def R6_0_0 : List It := .code (sndC (sndC (sndC b6))) :: []
theorem eK6_0_0 : exitA 0 K6_0 = some R6_0_0 := rfl
theorem bb_if {p : Nat} (h : p < 2) : bb p = if p = 1 then 49 else 48 := by
  have : p = 0 ∨ p = 1 := by omega
  rcases this with rfl | rfl <;> rfl
theorem l6 (v : Nat) (hv : v ≤ 9223372036854775807) : ∀ (j : Nat) (σ : St) (b : Nat) (acc : List UInt8), j ≤ 60 → acc.length + j ≤ 1000 → BRow σ b acc →
    ∃ σ', exI TT (FI.of Tryd.f6 (TT.an 6)) K6_0 [(0, .int .i64 v), (5, .sl b 0 acc.length acc.length), (6, .int .i64 ((j : Int) - 1))] σ = some (.str (acc ++ bsOf j v), σ') := by
  intro j
  induction j with
  | zero =>
    intro σ b acc hj hl hr
    have c1 := toStr hr rfl
    refine ⟨σ, ?_⟩
    rw [show acc ++ bsOf 0 v = acc by simp [bsOf]]
    generalize acc.length = n at *
    rw [fi6]
    rw [xl6_0]
    simp only [B6_0, b6, Tryd.f6, Option.getD, fstC, sndC, bodyC, thnC, elsC]
    simp [xI_seq, xI_region, xI_ret, regA, regOps, runOps, opStep, wantedA, opA, evo, evos, calleeA, lk, nif_eq, putE, paramsE, valS, val2, keepE, restrict, finA, resA, binA, binInt, ofConst, ofConst1, loadA, TK.isAgg, asVar, unA, builtinA, lenOpA, lenA, ileb_cast, ileb_eq, ieqb_dec, indexAddrA, inB_dec, evPairs, storeA, AV.cellsOf, pairsOf, xI_nil, binBool, gcE, evOpt, tagZ, isI64, pureLd, loadP, boxP, xI_block, xI_loopH, xI_condM, xI_exitM, xI_skip, xI_blk, exitA, ty2, ty3, ty5, ty9, ty22, ty26, eK6_0_0, runTr, pairsOk, pairOk, lstAt, lastOf, sameVal, AV.eqv, eqvs, eqvs_ints, regOps, blt_dec, cond_true, cond_false, fieldAddrA, allOne, AV.one, buildA, sizesOf, fillA, putCells, n_push, indexA, ty2, ty9, ty5, ty3, ty26]
    simp only [R6_0_0, b6, Tryd.f6, Option.getD, fstC, sndC, bodyC, thnC, elsC]
    simp [xI_seq, xI_region, xI_ret, regA, regOps, runOps, opStep, wantedA, opA, evo, evos, calleeA, lk, nif_eq, putE, paramsE, valS, val2, keepE, restrict, finA, resA, binA, binInt, ofConst, ofConst1, loadA, TK.isAgg, asVar, unA, builtinA, lenOpA, lenA, ileb_cast, ileb_eq, ieqb_dec, indexAddrA, inB_dec, evPairs, storeA, AV.cellsOf, pairsOf, xI_nil, binBool, gcE, evOpt, tagZ, isI64, pureLd, loadP, boxP, xI_block, xI_loopH, xI_condM, xI_exitM, xI_skip, xI_blk, exitA, ty2, ty3, ty5, ty9, ty22, ty26, eK6_0_0, runTr, pairsOk, pairOk, lstAt, lastOf, sameVal, AV.eqv, eqvs, eqvs_ints, regOps, blt_dec, cond_true, cond_false, fieldAddrA, allOne, AV.one, buildA, sizesOf, fillA, putCells, n_push, indexA, ty2, ty9, ty5, ty3, ty26, c1]
  | succ j ih =>
    intro σ b acc hj hl hr
    have hp2 : modN (shrN v j) 2 < 2 := Nat.mod_lt _ (by decide)
    have hsv : shrN v j ≤ 9223372036854775807 := Nat.le_trans (Nat.div_le_self _ _) hv
    obtain ⟨σ1, a1, r1, n1, _, _⟩ := bappend (T := TT) (st := 22) (x := bb (modN (shrN v j) 2)) ty22 ty5 hr (n := acc.length) rfl (by omega)
    obtain ⟨σ', h1⟩ := ih σ1 (σ.n + 1) (acc ++ [bb (modN (shrN v j) 2)]) (by omega) (by simp; omega) r1
    refine ⟨σ', ?_⟩
    have e : acc ++ bsOf (j + 1) v = acc ++ [bb (modN (shrN v j) 2)] ++ bsOf j v := by
      rw [bb_if hp2, bsOf]
      show acc ++ (if modN (shrN v j) 2 = 1 then 49 else 48) :: bsOf j v = _
      simp
    rw [e, ← h1, show ((j + 1 : Nat) : Int) - 1 = (j : Int) by omega, show (acc ++ [bb (modN (shrN v j) 2)]).length = acc.length + 1 by simp]
    clear h1 ih e r1 hr
    have s1 := sh_r (a := v) (b := j) (by omega)
    have s2 := n_and1 hsv
    have s3 : wrapA .u64 (j : Int) = (j : Int) := n_wrapu (by omega)
    have convU : ∀ σ, convA TT σ 3 26 (.int .i64 (j : Int)) = some (.int .u64 (j : Int), σ) := fun σ => by simp [convA, ty3, ty26, s3]
    have s4 := bb_wrap hp2
    have s5 : ∀ σ, convA TT σ 2 5 (.int .i64 (48 + ((modN (shrN v j) 2 : Nat) : Int))) = some (.int .u8 ((bb (modN (shrN v j) 2)).toNat : Nat), σ) := fun σ => bb_conv hp2 σ
    have s6 := fun σ => bb1 σ (bb (modN (shrN v j) 2))
    have w1 : wrapA .i64 ((j : Int) - 1) = (j : Int) - 1 := wrapA_id (by omega) (by omega)
    have hge : (0 : Int) ≤ (j : Int) := by omega
    generalize bb (modN (shrN v j) 2) = x at *
    generalize modN (shrN v j) 2 = q at *
    generalize shrN v j = sv at *
    generalize acc.length = n at *
    rw [fi6]
    conv => lhs; rw [xl6_0]
    simp only [B6_0, b6, Tryd.f6, Option.getD, fstC, sndC, bodyC, thnC, elsC]
    simp [xI_seq, xI_region, xI_ret, regA, regOps, runOps, opStep, wantedA, opA, evo, evos, calleeA, lk, nif_eq, putE, paramsE, valS, val2, keepE, restrict, finA, resA, binA, binInt, ofConst, ofConst1, loadA, TK.isAgg, asVar, unA, builtinA, lenOpA, lenA, ileb_cast, ileb_eq, ieqb_dec, indexAddrA, inB_dec, evPairs, storeA, AV.cellsOf, pairsOf, xI_nil, binBool, gcE, evOpt, tagZ, isI64, pureLd, loadP, boxP, xI_block, xI_loopH, xI_condM, xI_exitM, xI_skip, xI_blk, exitA, ty2, ty3, ty5, ty9, ty22, ty26, eK6_0_0, ty26, s1, s2, convU, s4, s5, s6, a1, w1, hge]
theorem v6 {n v : Nat} (hn : n ≤ 60) (hv : v ≤ 9223372036854775807) : FnV TT 6 [.int .i64 v, .int .i64 n] (.str (bsOf n v)) := by
  obtain ⟨σ', h⟩ := l6 v hv n ((⟨[], 0⟩ : St).push ⟨intsOf [], 1, false⟩) 0 [] hn (by simp; omega) (BRow.push _ _)
  have w1 : wrapA .i64 ((n : Int) - 1) = (n : Int) - 1 := wrapA_id (by omega) (by omega)
  rw [List.nil_append] at h
  refine FnV.mk fn6 rfl md6 ⟨σ', ?_⟩ (fun _ => rfl) rfl
  simp only [List.length_nil, show ((0 : Nat) : Int) = 0 from rfl] at h
  rw [← h, fi6]
  clear h
  simp [xI_seq, xI_region, xI_ret, regA, regOps, runOps, opStep, wantedA, opA, evo, evos, calleeA, lk, nif_eq, putE, paramsE, valS, val2, keepE, restrict, finA, resA, binA, binInt, ofConst, ofConst1, loadA, TK.isAgg, asVar, unA, builtinA, lenOpA, lenA, ileb_cast, ileb_eq, ieqb_dec, indexAddrA, inB_dec, evPairs, storeA, AV.cellsOf, pairsOf, xI_nil, binBool, gcE, evOpt, tagZ, isI64, pureLd, loadP, boxP, xI_block, xI_loopH, xI_condM, xI_exitM, xI_skip, xI_blk, exitA, ty2, ty3, ty5, ty9, ty22, ty26, eK6_0_0, bb0, w1]
  rfl
/-- A text's bits as a number, behind a number. -/
def numG : Nat → List UInt8 → Nat
  | acc, [] => acc
  | acc, x :: r => numG (2 * acc + (if x = 49 then 1 else 0)) r

noncomputable def b15 : Code := Tryd.f15.body.getD .skip
noncomputable def B15_0 : Code := (bodyC (bodyC (sndC (fstC (sndC (sndC b15))))))
noncomputable def K15_0 : List It := .lp B15_0 :: .blk 0 :: .code (sndC (sndC (sndC b15))) :: []
theorem xl15_0 {fi : FI} {env : Env} {σ : St} : exI TT fi K15_0 env σ = exI TT fi (.code B15_0 :: K15_0) env σ := by unfold K15_0; exact xI_lp
noncomputable def R15_0_0 : List It := .code (sndC (sndC (sndC b15))) :: []
theorem eK15_0_0 : exitA 0 K15_0 = some R15_0_0 := rfl
theorem l15 (s : List UInt8) (hs : s.length ≤ 40) (hb : s.all isBit = true) (σ : St) : ∀ (t : List UInt8) (i acc : Nat), s.drop i = t → i ≤ s.length → acc < 2 ^ i →
    exI TT (FI.of Tryd.f15 (TT.an 15)) K15_0 [(0, .str s), (3, .int .i64 acc), (6, .int .i64 s.length), (7, .int .i64 i)] σ = some (.int .i64 (numG acc t : Nat), σ) := by
  intro t
  induction t with
  | nil =>
    intro i acc hd hi ha
    have : (s.drop i).length = 0 := by rw [hd]; rfl
    rw [List.length_drop] at this
    obtain rfl : i = s.length := by omega
    rw [numG]
    generalize hsl : s.length = n at *
    rw [fi15]
    rw [xl15_0]
    simp only [B15_0, b15, Tryd.f15, Option.getD, fstC, sndC, bodyC, thnC, elsC]
    simp [xI_seq, xI_region, xI_ret, regA, regOps, runOps, opStep, wantedA, opA, evo, evos, calleeA, lk, nif_eq, putE, paramsE, valS, val2, keepE, restrict, finA, resA, binA, binInt, ofConst, ofConst1, loadA, TK.isAgg, asVar, unA, builtinA, lenOpA, lenA, ileb_cast, ileb_eq, ieqb_dec, indexAddrA, inB_dec, evPairs, storeA, AV.cellsOf, pairsOf, xI_nil, binBool, gcE, evOpt, tagZ, isI64, pureLd, loadP, boxP, xI_block, xI_loopH, xI_condM, xI_exitM, xI_skip, xI_blk, exitA, ty2, ty3, ty5, ty9, eK15_0_0]
    simp only [R15_0_0, b15, Tryd.f15, Option.getD, fstC, sndC, bodyC, thnC, elsC]
    simp [xI_seq, xI_region, xI_ret, regA, regOps, runOps, opStep, wantedA, opA, evo, evos, calleeA, lk, nif_eq, putE, paramsE, valS, val2, keepE, restrict, finA, resA, binA, binInt, ofConst, ofConst1, loadA, TK.isAgg, asVar, unA, builtinA, lenOpA, lenA, ileb_cast, ileb_eq, ieqb_dec, indexAddrA, inB_dec, evPairs, storeA, AV.cellsOf, pairsOf, xI_nil, binBool, gcE, evOpt, tagZ, isI64, pureLd, loadP, boxP, xI_block, xI_loopH, xI_condM, xI_exitM, xI_skip, xI_blk, exitA, ty2, ty3, ty5, ty9, eK15_0_0]
  | cons x t ih =>
    intro i acc hd hi ha
    obtain ⟨g1, g2, g3⟩ := dp1 hd
    have hxb : x = 48 ∨ x = 49 := by
      have := List.all_eq_true.1 hb x (List.mem_of_getElem? g2)
      rw [isBit] at this
      simpa using this
    obtain ⟨q, hq⟩ : ∃ q : Nat, q = if x = 49 then 1 else 0 := ⟨_, rfl⟩
    have hq1 : q ≤ 1 := by rw [hq]; split <;> omega
    have hxq : wrapA .u8 ((x.toNat : Int) - 48) = (q : Int) := by rw [hq]; rcases hxb with rfl | rfl <;> rfl
    have hqq : wrapA .i64 (q : Int) = (q : Int) := wrapA_id (by omega) (by omega)
    have e2 : 2 ^ (i + 1) = 2 ^ i * 2 := Nat.pow_succ 2 i
    have e3 : 2 ^ i ≤ 2 ^ 40 := Nat.pow_le_pow_right (by decide) (by omega)
    have h1 := ih (i + 1) (2 * acc + q) g3 g1 (by omega)
    rw [numG, ← hq, ← h1, show ((i + 1 : Nat) : Int) = (i : Int) + 1 by omega]
    clear h1 ih hd g3 hb
    have hlt : (i : Int) < (s.length : Int) := by omega
    have hnl : ¬ s.length ≤ i := by omega
    have hw : wrapA .i64 ((i : Int) + 1) = (i : Int) + 1 := wrapA_id (by omega) (by omega)
    have w2 : wrapA .i64 (2 * (acc : Int)) = ((2 * acc : Nat) : Int) := by rw [wrapA_id (by omega) (by omega)]; omega
    have w3 : wrapA .i64 (((2 * acc : Nat) : Int) + (q : Int)) = ((2 * acc + q : Nat) : Int) := by rw [wrapA_id (by omega) (by omega)]; omega
    generalize 2 * acc + q = v3 at *
    generalize 2 * acc = v2 at *
    generalize hsl : s.length = n at *
    rw [fi15]
    conv => lhs; rw [xl15_0]
    simp only [B15_0, b15, Tryd.f15, Option.getD, fstC, sndC, bodyC, thnC, elsC]
    simp [xI_seq, xI_region, xI_ret, regA, regOps, runOps, opStep, wantedA, opA, evo, evos, calleeA, lk, nif_eq, putE, paramsE, valS, val2, keepE, restrict, finA, resA, binA, binInt, ofConst, ofConst1, loadA, TK.isAgg, asVar, unA, builtinA, lenOpA, lenA, ileb_cast, ileb_eq, ieqb_dec, indexAddrA, inB_dec, evPairs, storeA, AV.cellsOf, pairsOf, xI_nil, binBool, gcE, evOpt, tagZ, isI64, pureLd, loadP, boxP, xI_block, xI_loopH, xI_condM, xI_exitM, xI_skip, xI_blk, exitA, ty2, ty3, ty5, ty9, eK15_0_0, runTr, pairsOk, pairOk, lstAt, lastOf, sameVal, AV.eqv, eqvs, eqvs_ints, regOps, blt_dec, cond_true, cond_false, fieldAddrA, allOne, AV.one, buildA, sizesOf, fillA, putCells, n_push, indexA, ty2, ty9, ty5, ty3, ty26, convA, hlt, hnl, hsl, hw, w2, w3, hxq, hqq, g2]
theorem v15 (s : List UInt8) (hs : s.length ≤ 40) (hb : s.all isBit = true) : FnV TT 15 [.str s] (.int .i64 (numG 0 s : Nat)) := by
  have h1 := l15 s hs hb ⟨[], 0⟩ s 0 0 rfl (Nat.zero_le _) (by decide)
  refine FnV.mk fn15 rfl md15 ⟨⟨[], 0⟩, ?_⟩ (fun _ => rfl) rfl
  simp only [show ((0 : Nat) : Int) = 0 from rfl] at h1
  rw [← h1, fi15]
  clear h1
  simp [xI_seq, xI_region, xI_ret, regA, regOps, runOps, opStep, wantedA, opA, evo, evos, calleeA, lk, nif_eq, putE, paramsE, valS, val2, keepE, restrict, finA, resA, binA, binInt, ofConst, ofConst1, loadA, TK.isAgg, asVar, unA, builtinA, lenOpA, lenA, ileb_cast, ileb_eq, ieqb_dec, indexAddrA, inB_dec, evPairs, storeA, AV.cellsOf, pairsOf, xI_nil, binBool, gcE, evOpt, tagZ, isI64, pureLd, loadP, boxP, xI_block, xI_loopH, xI_condM, xI_exitM, xI_skip, xI_blk, exitA, ty2, ty3, ty5, ty9, eK15_0_0, runTr, pairsOk, pairOk, lstAt, lastOf, sameVal, AV.eqv, eqvs, eqvs_ints, regOps, blt_dec, cond_true, cond_false, fieldAddrA, allOne, AV.one, buildA, sizesOf, fillA, putCells, n_push, indexA, ty2, ty9, ty5, ty3, ty26]
  rfl
/-- How many bits a draw takes. -/
def kOf (n : Nat) : Nat := Nat.log2 (2 * n - 1)

theorem v14 {n : Nat} (h1 : 1 ≤ n) (h2 : n ≤ 1000000) : FnV TT 14 [.int .i64 n] (.int .i64 (kOf n : Nat)) := by
  have c1 := v29 (2 * n - 1) (by omega) ⟨[], 0⟩ [.int .i64 (2 * n - 1 : Nat)] rfl
  have e : (bl (2 * n - 1) : Int) - 1 = ((kOf n : Nat) : Int) := by
    rw [bl, if_neg (by omega), kOf]; omega
  rw [e] at c1
  have w1 : wrapA .i64 (2 * (n : Int)) = ((2 * n : Nat) : Int) := by rw [wrapA_id (by omega) (by omega)]; omega
  have w2 : wrapA .i64 (((2 * n : Nat) : Int) - 1) = ((2 * n - 1 : Nat) : Int) := by rw [wrapA_id (by omega) (by omega)]; omega
  refine FnV.mk fn14 rfl md14 ⟨⟨[], 0⟩, ?_⟩ (fun _ => rfl) rfl
  generalize 2 * n - 1 = a at *
  generalize 2 * n = b at *
  rw [fi14]
  simp [xI_seq, xI_region, xI_ret, regA, regOps, runOps, opStep, wantedA, opA, evo, evos, calleeA, lk, nif_eq, putE, paramsE, valS, val2, keepE, restrict, finA, resA, binA, binInt, ofConst, ofConst1, loadA, TK.isAgg, asVar, unA, builtinA, lenOpA, lenA, ileb_cast, ileb_eq, ieqb_dec, indexAddrA, inB_dec, evPairs, storeA, AV.cellsOf, pairsOf, xI_nil, binBool, gcE, evOpt, tagZ, isI64, pureLd, loadP, boxP, xI_block, xI_loopH, xI_condM, xI_exitM, xI_skip, xI_blk, exitA, ty2, runTr, pairsOk, pairOk, lstAt, lastOf, sameVal, AV.eqv, eqvs, eqvs_ints, regOps, blt_dec, cond_true, cond_false, fieldAddrA, allOne, AV.one, buildA, sizesOf, fillA, putCells, n_push, indexA, ty2, ty9, ty5, ty3, ty26, c1, w1, w2]
theorem kOf_pow (n : Nat) (h1 : 1 ≤ n) : n ≤ 2 ^ kOf n := by
  have := Nat.lt_log2_self (n := 2 * n - 1)
  rw [Nat.pow_succ] at this
  rw [kOf]; omega
theorem kOf_le {n : Nat} (h1 : 1 ≤ n) (h2 : n ≤ 32) : kOf n ≤ 5 := by
  rw [kOf]
  have := (Nat.log2_lt (n := 2 * n - 1) (k := 6) (by omega)).2 (by omega)
  omega
theorem kOf_pos {n : Nat} (h : 2 ≤ n) : 1 ≤ kOf n := by
  have := (Nat.le_log2 (n := 2 * n - 1) (k := 1) (by omega)).2 (by omega)
  rw [kOf]; omega

theorem v12 {n : Nat} (h1 : 1 ≤ n) (h2 : n ≤ 1000000) : FnV TT 12 [.int .i64 n] (.bool true) := by
  have c1 := c19 n 1 1000000 ⟨[], 0⟩
  rw [show inR (n : Int) 1 1000000 = true from inR_iff.2 (by omega)] at c1
  refine FnV.mk fn12 rfl md12 ⟨⟨[], 0⟩, ?_⟩ (fun _ => rfl) rfl
  rw [fi12]
  simp [xI_seq, xI_region, xI_ret, regA, regOps, runOps, opStep, wantedA, opA, evo, evos, calleeA, lk, nif_eq, putE, paramsE, valS, val2, keepE, restrict, finA, resA, binA, binInt, ofConst, ofConst1, loadA, TK.isAgg, asVar, unA, builtinA, lenOpA, lenA, ileb_cast, ileb_eq, ieqb_dec, indexAddrA, inB_dec, evPairs, storeA, AV.cellsOf, pairsOf, xI_nil, binBool, gcE, evOpt, tagZ, isI64, pureLd, loadP, boxP, xI_block, xI_loopH, xI_condM, xI_exitM, xI_skip, xI_blk, exitA, c1]
/-- What a roll yields. -/
def rollV : Option (Nat × Nat) → AV
  | some (f, d) => .tup [.int .i64 (f : Int), .int .i64 (d : Int), .bool true]
  | none => .tup [.int .i64 0, .int .i64 0, .bool false]
theorem rollV_frz (o : Option (Nat × Nat)) (σ : St) : frzV σ frzDepth (rollV o) = some (rollV o) := by cases o <;> rfl
theorem rollV_scal (o : Option (Nat × Nat)) : (rollV o).scal = true := by cases o <;> rfl
/-- Draws of k bits until one is below n. -/
def rejG (n k : Nat) : Nat → List UInt8 → Nat → Option (Nat × Nat)
  | 0, _, _ => none
  | m + 1, s, u => if s.length < k then none else if numG 0 (s.take k) < n then some (numG 0 (s.take k), u + k) else rejG n k m (s.drop k) (u + k)

noncomputable def b7 : Code := Tryd.f7.body.getD .skip
noncomputable def B7_0 : Code := (bodyC (bodyC (sndC (fstC (sndC (sndC (sndC b7)))))))
noncomputable def K7_0 : List It := .lp B7_0 :: .blk 0 :: .code (sndC (sndC (sndC (sndC b7)))) :: []
theorem xl7_0 {fi : FI} {env : Env} {σ : St} : exI TT fi K7_0 env σ = exI TT fi (.code B7_0 :: K7_0) env σ := by unfold K7_0; exact xI_lp
noncomputable def R7_0_0 : List It := .code (sndC (sndC (sndC (sndC b7)))) :: []
theorem eK7_0_0 : exitA 0 K7_0 = some R7_0_0 := rfl
theorem l7 (n k : Nat) (hn : n ≤ 1000000) (hk : k ≤ 40) (hk0 : k = 0 → 0 < n) (s : List UInt8) (hs : s.length ≤ 400) (hb : s.all isBit = true) (σ : St) : ∀ (m : Nat) (t : List UInt8) (u : Nat), s.drop u = t → u ≤ s.length → t.length < m →
    exI TT (FI.of Tryd.f7 (TT.an 7)) K7_0 [(0, .int .i64 n), (1, .str s), (7, .int .i64 k), (8, .int .i64 (u + k : Nat))] σ = some (rollV (rejG n k m t u), σ) := by
  intro m
  induction m with
  | zero => intro t u _ _ h; omega
  | succ m ih =>
    intro t u ht hu hm
    have hlt : t.length = s.length - u := by rw [← ht, List.length_drop]
    by_cases h1 : t.length < k
    · rw [rejG, if_pos h1, rollV]
      have q1 : ¬ ((u + k : Nat) : Int) ≤ (s.length : Int) := by omega
      have q2 : ¬ u + k ≤ s.length := by omega
      have q3 : s.length < u + k := by omega
      clear ih
      generalize u + k = uk at *
      generalize hsl : s.length = n at *
      rw [fi7]
      rw [xl7_0]
      simp only [B7_0, b7, Tryd.f7, Option.getD, fstC, sndC, bodyC, thnC, elsC]
      simp [xI_seq, xI_region, xI_ret, regA, regOps, runOps, opStep, wantedA, opA, evo, evos, calleeA, lk, nif_eq, putE, paramsE, valS, val2, keepE, restrict, finA, resA, binA, binInt, ofConst, ofConst1, loadA, TK.isAgg, asVar, unA, builtinA, lenOpA, lenA, ileb_cast, ileb_eq, ieqb_dec, indexAddrA, inB_dec, evPairs, storeA, AV.cellsOf, pairsOf, xI_nil, binBool, gcE, evOpt, tagZ, isI64, pureLd, loadP, boxP, xI_block, xI_loopH, xI_condM, xI_exitM, xI_skip, xI_blk, exitA, ty2, ty3, ty4, ty9, eK7_0_0, runTr, pairsOk, pairOk, lstAt, lastOf, sameVal, AV.eqv, eqvs, eqvs_ints, regOps, blt_dec, cond_true, cond_false, fieldAddrA, allOne, AV.one, buildA, sizesOf, fillA, putCells, n_push, indexA, ty2, ty9, ty5, ty3, ty26, hsl, q1, q2, q3]
      simp only [R7_0_0, b7, Tryd.f7, Option.getD, fstC, sndC, bodyC, thnC, elsC]
      simp [xI_seq, xI_region, xI_ret, regA, regOps, runOps, opStep, wantedA, opA, evo, evos, calleeA, lk, nif_eq, putE, paramsE, valS, val2, keepE, restrict, finA, resA, binA, binInt, ofConst, ofConst1, loadA, TK.isAgg, asVar, unA, builtinA, lenOpA, lenA, ileb_cast, ileb_eq, ieqb_dec, indexAddrA, inB_dec, evPairs, storeA, AV.cellsOf, pairsOf, xI_nil, binBool, gcE, evOpt, tagZ, isI64, pureLd, loadP, boxP, xI_block, xI_loopH, xI_condM, xI_exitM, xI_skip, xI_blk, exitA, ty2, ty3, ty4, ty9, eK7_0_0, runTr, pairsOk, pairOk, lstAt, lastOf, sameVal, AV.eqv, eqvs, eqvs_ints, regOps, blt_dec, cond_true, cond_false, fieldAddrA, allOne, AV.one, buildA, sizesOf, fillA, putCells, n_push, indexA, ty2, ty9, ty5, ty3, ty26, hsl]
    · have hsl : ∀ σ : St, sliceA TT σ 9 (.str s) (some (.int .i64 u)) (some (.int .i64 (u + k : Nat))) = some (.str (t.take k)) := by
        intro σ
        have a1 : u + k ≤ s.length := by omega
        have a2 : ((u + k : Nat) : Int) ≤ (s.length : Int) := by omega
        have a3 : u ≤ u + k := by omega
        have e : (s.take (u + k)).drop u = t.take k := by rw [List.drop_take, ht, show u + k - u = k by omega]
        have a4 : (u : Int) ≤ ((u + k : Nat) : Int) := by omega
        have a5 : ¬ ((u + k : Nat) : Int) < 0 := by omega
        generalize u + k = w at *
        simp [sliceA, ty9, boundA, a1, a2, a3, a4, e]
      have htb : (t.take k).all isBit = true := by
        rw [List.all_eq_true] at hb ⊢
        intro x hx
        have h2 := List.mem_of_mem_take hx
        rw [← ht] at h2
        exact hb x (List.mem_of_mem_drop h2)
      have c1 : ∀ σ, callI TT 15 [.str (t.take k)] σ = some (.int .i64 (numG 0 (t.take k) : Nat), σ) := fun σ => v15 (t.take k) (by simp; omega) htb σ [.str (t.take k)] rfl
      have q1 : ((u + k : Nat) : Int) ≤ (s.length : Int) := by omega
      have q2 : u + k ≤ s.length := by omega
      have q3 : ¬ s.length < u + k := by omega
      have w1 : wrapA .i64 (((u + k : Nat) : Int) - (k : Int)) = (u : Int) := by rw [wrapA_id (by omega) (by omega)]; omega
      by_cases h2 : numG 0 (t.take k) < n
      · rw [rejG, if_neg h1, if_pos h2, rollV]
        have h2i : ((numG 0 (t.take k) : Nat) : Int) < (n : Int) := by omega
        clear ih
        generalize numG 0 (t.take k) = d at *
        generalize t.take k = tk at *
        generalize u + k = uk at *
        generalize hsll : s.length = sl at *
        rw [fi7]
        rw [xl7_0]
        simp only [B7_0, b7, Tryd.f7, Option.getD, fstC, sndC, bodyC, thnC, elsC]
        simp [xI_seq, xI_region, xI_ret, regA, regOps, runOps, opStep, wantedA, opA, evo, evos, calleeA, lk, nif_eq, putE, paramsE, valS, val2, keepE, restrict, finA, resA, binA, binInt, ofConst, ofConst1, loadA, TK.isAgg, asVar, unA, builtinA, lenOpA, lenA, ileb_cast, ileb_eq, ieqb_dec, indexAddrA, inB_dec, evPairs, storeA, AV.cellsOf, pairsOf, xI_nil, binBool, gcE, evOpt, tagZ, isI64, pureLd, loadP, boxP, xI_block, xI_loopH, xI_condM, xI_exitM, xI_skip, xI_blk, exitA, ty2, ty3, ty4, ty9, eK7_0_0, runTr, pairsOk, pairOk, lstAt, lastOf, sameVal, AV.eqv, eqvs, eqvs_ints, regOps, blt_dec, cond_true, cond_false, fieldAddrA, allOne, AV.one, buildA, sizesOf, fillA, putCells, n_push, indexA, ty2, ty9, ty5, ty3, ty26, hsll, q1, q2, q3, w1, hsl, c1, h2, h2i]
      · have hk1 : 1 ≤ k := by
          rcases Nat.eq_zero_or_pos k with h | h
          · have := hk0 h
            subst h
            rw [List.take_zero] at h2
            exact absurd this h2
          · exact h
        have h3 := ih (t.drop k) (u + k) (by rw [← ht, List.drop_drop]) (by omega) (by rw [List.length_drop]; omega)
        rw [rejG, if_neg h1, if_neg h2, ← h3]
        have h2i : ¬ ((numG 0 (t.take k) : Nat) : Int) < (n : Int) := by omega
        have w2 : wrapA .i64 (((u + k : Nat) : Int) + (k : Int)) = ((u + k + k : Nat) : Int) := by rw [wrapA_id (by omega) (by omega)]; omega
        clear ih h3
        generalize numG 0 (t.take k) = d at *
        generalize t.take k = tk at *
        generalize u + k + k = ukk at *
        generalize u + k = uk at *
        generalize hsll : s.length = sl at *
        rw [fi7]
        conv => lhs; rw [xl7_0]
        simp only [B7_0, b7, Tryd.f7, Option.getD, fstC, sndC, bodyC, thnC, elsC]
        simp [xI_seq, xI_region, xI_ret, regA, regOps, runOps, opStep, wantedA, opA, evo, evos, calleeA, lk, nif_eq, putE, paramsE, valS, val2, keepE, restrict, finA, resA, binA, binInt, ofConst, ofConst1, loadA, TK.isAgg, asVar, unA, builtinA, lenOpA, lenA, ileb_cast, ileb_eq, ieqb_dec, indexAddrA, inB_dec, evPairs, storeA, AV.cellsOf, pairsOf, xI_nil, binBool, gcE, evOpt, tagZ, isI64, pureLd, loadP, boxP, xI_block, xI_loopH, xI_condM, xI_exitM, xI_skip, xI_blk, exitA, ty2, ty3, ty4, ty9, eK7_0_0, runTr, pairsOk, pairOk, lstAt, lastOf, sameVal, AV.eqv, eqvs, eqvs_ints, regOps, blt_dec, cond_true, cond_false, fieldAddrA, allOne, AV.one, buildA, sizesOf, fillA, putCells, n_push, indexA, ty2, ty9, ty5, ty3, ty26, hsll, q1, q2, q3, w1, w2, hsl, c1, h2, h2i]
/-- A roll by rejection. -/
def rejF (n : Nat) (s : List UInt8) : Option (Nat × Nat) := rejG n (kOf n) (s.length + 1) s 0
theorem v7 {n : Nat} (h1 : 1 ≤ n) (h2 : n ≤ 32) (s : List UInt8) (hs : s.length ≤ 400) (hb : s.all isBit = true) : FnV TT 7 [.int .i64 n, .str s] (rollV (rejF n s)) := by
  have hk := kOf_le h1 h2
  have h := l7 n (kOf n) (by omega) (by omega) (fun _ => by omega) s hs hb ⟨[], 0⟩ (s.length + 1) s 0 rfl (Nat.zero_le _) (Nat.lt_succ_self _)
  have c1 := v12 h1 (show n ≤ 1000000 by omega) ⟨[], 0⟩ [.int .i64 n] rfl
  have c2 := v14 h1 (show n ≤ 1000000 by omega) ⟨[], 0⟩ [.int .i64 n] rfl
  have c3 := c13 s (by omega) ⟨[], 0⟩
  rw [show isBits s = true by simp [isBits, hs, hb]] at c3
  refine FnV.mk fn7 rfl md7 ⟨⟨[], 0⟩, ?_⟩ (rollV_frz _) (rollV_scal _)
  rw [rejF, ← h, Nat.zero_add, fi7]
  clear h
  generalize kOf n = k at *
  simp [xI_seq, xI_region, xI_ret, regA, regOps, runOps, opStep, wantedA, opA, evo, evos, calleeA, lk, nif_eq, putE, paramsE, valS, val2, keepE, restrict, finA, resA, binA, binInt, ofConst, ofConst1, loadA, TK.isAgg, asVar, unA, builtinA, lenOpA, lenA, ileb_cast, ileb_eq, ieqb_dec, indexAddrA, inB_dec, evPairs, storeA, AV.cellsOf, pairsOf, xI_nil, binBool, gcE, evOpt, tagZ, isI64, pureLd, loadP, boxP, xI_block, xI_loopH, xI_condM, xI_exitM, xI_skip, xI_blk, exitA, ty2, ty3, ty4, ty9, eK7_0_0, runTr, pairsOk, pairOk, lstAt, lastOf, sameVal, AV.eqv, eqvs, eqvs_ints, regOps, blt_dec, cond_true, cond_false, fieldAddrA, allOne, AV.one, buildA, sizesOf, fillA, putCells, n_push, indexA, ty2, ty9, ty5, ty3, ty26, c1, c2, c3]
  rfl
/-- A roll of a die with v sides that shows c. -/
def diceG (n : Nat) : List UInt8 → Nat → Nat → Nat → Option (Nat × Nat)
  | [], v, c, u => if v < n then none else if c < n then some (c, u) else none
  | x :: s, v, c, u => if v < n then diceG n s (2 * v) (2 * c + (if x = 49 then 1 else 0)) (u + 1) else if c < n then some (c, u) else diceG n s (2 * (v - n)) (2 * (c - n) + (if x = 49 then 1 else 0)) (u + 1)

noncomputable def b16 : Code := Tryd.f16.body.getD .skip
noncomputable def B16_0 : Code := (bodyC (bodyC (sndC (sndC b16))))
noncomputable def K16_0 : List It := .lp B16_0 :: .blk 0 :: []
theorem xl16_0 {fi : FI} {env : Env} {σ : St} : exI TT fi K16_0 env σ = exI TT fi (.code B16_0 :: K16_0) env σ := by unfold K16_0; exact xI_lp
noncomputable def R16_0_0 : List It := []
theorem eK16_0_0 : exitA 0 K16_0 = some R16_0_0 := rfl
noncomputable def B16_1 : Code := (bodyC (bodyC (fstC (bodyC (bodyC (bodyC (sndC (sndC b16))))))))
noncomputable def K16_1 : List It := .lp B16_1 :: .blk 2 :: .code (sndC (bodyC (bodyC (bodyC (sndC (sndC b16)))))) :: .blk 1 :: K16_0
theorem xl16_1 {fi : FI} {env : Env} {σ : St} : exI TT fi K16_1 env σ = exI TT fi (.code B16_1 :: K16_1) env σ := by unfold K16_1; exact xI_lp
noncomputable def R16_1_2 : List It := .code (sndC (bodyC (bodyC (bodyC (sndC (sndC b16)))))) :: .blk 1 :: K16_0
theorem eK16_1_2 : exitA 2 K16_1 = some R16_1_2 := rfl
noncomputable def R16_1_1 : List It := K16_0
theorem eK16_1_1 : exitA 1 K16_1 = some R16_1_1 := rfl
theorem eK16_1_0 : exitA 0 K16_1 = some R16_0_0 := rfl
theorem a16 (n v c : Nat) (s : List UInt8) (σ : St) (hv : v < n) : exI TT (FI.of Tryd.f16 (TT.an 16)) K16_1 [(0, .int .i64 n), (1, .str s), (7, .int .i64 v), (8, .int .i64 c), (9, .int .i64 s.length)] σ = some (rollV none, σ) := by
  have h1 : (v : Int) < (n : Int) := by omega
  rw [rollV]
  generalize hsl : s.length = sl at *
  rw [fi16]
  rw [xl16_1]
  simp only [B16_1, b16, Tryd.f16, Option.getD, fstC, sndC, bodyC, thnC, elsC]
  simp [xI_seq, xI_region, xI_ret, regA, regOps, runOps, opStep, wantedA, opA, evo, evos, calleeA, lk, nif_eq, putE, paramsE, valS, val2, keepE, restrict, finA, resA, binA, binInt, ofConst, ofConst1, loadA, TK.isAgg, asVar, unA, builtinA, lenOpA, lenA, ileb_cast, ileb_eq, ieqb_dec, indexAddrA, inB_dec, evPairs, storeA, AV.cellsOf, pairsOf, xI_nil, binBool, gcE, evOpt, tagZ, isI64, pureLd, loadP, boxP, xI_block, xI_loopH, xI_condM, xI_exitM, xI_skip, xI_blk, exitA, ty2, ty3, ty5, ty9, eK16_0_0, eK16_1_2, eK16_1_1, eK16_1_0, runTr, pairsOk, pairOk, lstAt, lastOf, sameVal, AV.eqv, eqvs, eqvs_ints, regOps, blt_dec, cond_true, cond_false, fieldAddrA, allOne, AV.one, buildA, sizesOf, fillA, putCells, n_push, indexA, ty2, ty9, ty5, ty3, ty26, hsl, h1, hv]
theorem b16n (n v c u q : Nat) (x : UInt8) (s : List UInt8) (σ : St) (hn : n ≤ 1000000) (hs : s.length ≤ 400) (hv : v < n) (hc : c < v) (g1 : u + 1 ≤ s.length) (g2 : s[u]? = some x) (hq1 : q ≤ 1) (hxq : wrapA .u8 ((x.toNat : Int) - 48) = (q : Int)) :
    exI TT (FI.of Tryd.f16 (TT.an 16)) K16_1 [(0, .int .i64 n), (1, .str s), (7, .int .i64 v), (8, .int .i64 c), (9, .int .i64 u)] σ = exI TT (FI.of Tryd.f16 (TT.an 16)) K16_1 [(0, .int .i64 n), (1, .str s), (7, .int .i64 (2 * v : Nat)), (8, .int .i64 (2 * c + q : Nat)), (9, .int .i64 (u + 1 : Nat))] σ := by
  have h1 : (v : Int) < (n : Int) := by omega
  have hne : ¬ (u : Int) = (s.length : Int) := by omega
  have hne2 : ¬ u = s.length := by omega
  have hlt : (u : Int) < (s.length : Int) := by omega
  have hlt2 : u < s.length := by omega
  have hqq : wrapA .i64 (q : Int) = (q : Int) := wrapA_id (by omega) (by omega)
  have w1 : wrapA .i64 (2 * (v : Int)) = ((2 * v : Nat) : Int) := by rw [wrapA_id (by omega) (by omega)]; omega
  have w2 : wrapA .i64 (2 * (c : Int)) = ((2 * c : Nat) : Int) := by rw [wrapA_id (by omega) (by omega)]; omega
  have w3 : wrapA .i64 (((2 * c : Nat) : Int) + (q : Int)) = ((2 * c + q : Nat) : Int) := by rw [wrapA_id (by omega) (by omega)]; omega
  have w4 : wrapA .i64 ((u : Int) + 1) = ((u + 1 : Nat) : Int) := by rw [wrapA_id (by omega) (by omega)]; omega
  generalize 2 * c + q = c3 at *
  generalize 2 * c = c2 at *
  generalize 2 * v = v2 at *
  generalize u + 1 = u1 at *
  generalize hsl : s.length = sl at *
  rw [fi16]
  conv => lhs; rw [xl16_1]
  simp only [B16_1, b16, Tryd.f16, Option.getD, fstC, sndC, bodyC, thnC, elsC]
  simp [xI_seq, xI_region, xI_ret, regA, regOps, runOps, opStep, wantedA, opA, evo, evos, calleeA, lk, nif_eq, putE, paramsE, valS, val2, keepE, restrict, finA, resA, binA, binInt, ofConst, ofConst1, loadA, TK.isAgg, asVar, unA, builtinA, lenOpA, lenA, ileb_cast, ileb_eq, ieqb_dec, indexAddrA, inB_dec, evPairs, storeA, AV.cellsOf, pairsOf, xI_nil, binBool, gcE, evOpt, tagZ, isI64, pureLd, loadP, boxP, xI_block, xI_loopH, xI_condM, xI_exitM, xI_skip, xI_blk, exitA, ty2, ty3, ty5, ty9, eK16_0_0, eK16_1_2, eK16_1_1, eK16_1_0, runTr, pairsOk, pairOk, lstAt, lastOf, sameVal, AV.eqv, eqvs, eqvs_ints, regOps, blt_dec, cond_true, cond_false, fieldAddrA, allOne, AV.one, buildA, sizesOf, fillA, putCells, n_push, indexA, ty2, ty9, ty5, ty3, ty26, convA, hsl, h1, hv, hne, hne2, g2, hxq, hqq, w1, w2, w3, w4]
theorem c16n (n v c u : Nat) (s : List UInt8) (σ : St) (hv : ¬ v < n) (hc : c < n) : exI TT (FI.of Tryd.f16 (TT.an 16)) K16_1 [(0, .int .i64 n), (1, .str s), (7, .int .i64 v), (8, .int .i64 c), (9, .int .i64 u)] σ = some (rollV (some (c, u)), σ) := by
  have h1 : ¬ (v : Int) < (n : Int) := by omega
  have h2 : (c : Int) < (n : Int) := by omega
  rw [rollV]
  rw [fi16]
  rw [xl16_1]
  simp only [B16_1, b16, Tryd.f16, Option.getD, fstC, sndC, bodyC, thnC, elsC]
  simp [xI_seq, xI_region, xI_ret, regA, regOps, runOps, opStep, wantedA, opA, evo, evos, calleeA, lk, nif_eq, putE, paramsE, valS, val2, keepE, restrict, finA, resA, binA, binInt, ofConst, ofConst1, loadA, TK.isAgg, asVar, unA, builtinA, lenOpA, lenA, ileb_cast, ileb_eq, ieqb_dec, indexAddrA, inB_dec, evPairs, storeA, AV.cellsOf, pairsOf, xI_nil, binBool, gcE, evOpt, tagZ, isI64, pureLd, loadP, boxP, xI_block, xI_loopH, xI_condM, xI_exitM, xI_skip, xI_blk, exitA, ty2, ty3, ty5, ty9, eK16_0_0, eK16_1_2, eK16_1_1, eK16_1_0, runTr, pairsOk, pairOk, lstAt, lastOf, sameVal, AV.eqv, eqvs, eqvs_ints, regOps, blt_dec, cond_true, cond_false, fieldAddrA, allOne, AV.one, buildA, sizesOf, fillA, putCells, n_push, indexA, ty2, ty9, ty5, ty3, ty26, h1, hv]
  simp only [R16_1_2, b16, Tryd.f16, Option.getD, fstC, sndC, bodyC, thnC, elsC]
  simp [xI_seq, xI_region, xI_ret, regA, regOps, runOps, opStep, wantedA, opA, evo, evos, calleeA, lk, nif_eq, putE, paramsE, valS, val2, keepE, restrict, finA, resA, binA, binInt, ofConst, ofConst1, loadA, TK.isAgg, asVar, unA, builtinA, lenOpA, lenA, ileb_cast, ileb_eq, ieqb_dec, indexAddrA, inB_dec, evPairs, storeA, AV.cellsOf, pairsOf, xI_nil, binBool, gcE, evOpt, tagZ, isI64, pureLd, loadP, boxP, xI_block, xI_loopH, xI_condM, xI_exitM, xI_skip, xI_blk, exitA, ty2, ty3, ty5, ty9, eK16_0_0, eK16_1_2, eK16_1_1, eK16_1_0, runTr, pairsOk, pairOk, lstAt, lastOf, sameVal, AV.eqv, eqvs, eqvs_ints, regOps, blt_dec, cond_true, cond_false, fieldAddrA, allOne, AV.one, buildA, sizesOf, fillA, putCells, n_push, indexA, ty2, ty9, ty5, ty3, ty26, h2, hc]
theorem d16 (n v c u : Nat) (s : List UInt8) (σ : St) (hv : ¬ v < n) (hc : ¬ c < n) (hvm : v ≤ 4000000) (hcv : c ≤ v) : exI TT (FI.of Tryd.f16 (TT.an 16)) K16_1 [(0, .int .i64 n), (1, .str s), (7, .int .i64 v), (8, .int .i64 c), (9, .int .i64 u)] σ = exI TT (FI.of Tryd.f16 (TT.an 16)) K16_1 [(0, .int .i64 n), (1, .str s), (7, .int .i64 (v - n : Nat)), (8, .int .i64 (c - n : Nat)), (9, .int .i64 u)] σ := by
  have h1 : ¬ (v : Int) < (n : Int) := by omega
  have h2 : ¬ (c : Int) < (n : Int) := by omega
  have w1 : wrapA .i64 ((v : Int) - (n : Int)) = ((v - n : Nat) : Int) := by rw [wrapA_id (by omega) (by omega)]; omega
  have w2 : wrapA .i64 ((c : Int) - (n : Int)) = ((c - n : Nat) : Int) := by rw [wrapA_id (by omega) (by omega)]; omega
  generalize v - n = v1 at *
  generalize c - n = c1 at *
  rw [fi16]
  conv => lhs; rw [xl16_1]
  simp only [B16_1, b16, Tryd.f16, Option.getD, fstC, sndC, bodyC, thnC, elsC]
  simp [xI_seq, xI_region, xI_ret, regA, regOps, runOps, opStep, wantedA, opA, evo, evos, calleeA, lk, nif_eq, putE, paramsE, valS, val2, keepE, restrict, finA, resA, binA, binInt, ofConst, ofConst1, loadA, TK.isAgg, asVar, unA, builtinA, lenOpA, lenA, ileb_cast, ileb_eq, ieqb_dec, indexAddrA, inB_dec, evPairs, storeA, AV.cellsOf, pairsOf, xI_nil, binBool, gcE, evOpt, tagZ, isI64, pureLd, loadP, boxP, xI_block, xI_loopH, xI_condM, xI_exitM, xI_skip, xI_blk, exitA, ty2, ty3, ty5, ty9, eK16_0_0, eK16_1_2, eK16_1_1, eK16_1_0, runTr, pairsOk, pairOk, lstAt, lastOf, sameVal, AV.eqv, eqvs, eqvs_ints, regOps, blt_dec, cond_true, cond_false, fieldAddrA, allOne, AV.one, buildA, sizesOf, fillA, putCells, n_push, indexA, ty2, ty9, ty5, ty3, ty26, h1, hv]
  simp only [R16_1_2, b16, Tryd.f16, Option.getD, fstC, sndC, bodyC, thnC, elsC]
  simp [xI_seq, xI_region, xI_ret, regA, regOps, runOps, opStep, wantedA, opA, evo, evos, calleeA, lk, nif_eq, putE, paramsE, valS, val2, keepE, restrict, finA, resA, binA, binInt, ofConst, ofConst1, loadA, TK.isAgg, asVar, unA, builtinA, lenOpA, lenA, ileb_cast, ileb_eq, ieqb_dec, indexAddrA, inB_dec, evPairs, storeA, AV.cellsOf, pairsOf, xI_nil, binBool, gcE, evOpt, tagZ, isI64, pureLd, loadP, boxP, xI_block, xI_loopH, xI_condM, xI_exitM, xI_skip, xI_blk, exitA, ty2, ty3, ty5, ty9, eK16_0_0, eK16_1_2, eK16_1_1, eK16_1_0, runTr, pairsOk, pairOk, lstAt, lastOf, sameVal, AV.eqv, eqvs, eqvs_ints, regOps, blt_dec, cond_true, cond_false, fieldAddrA, allOne, AV.one, buildA, sizesOf, fillA, putCells, n_push, indexA, ty2, ty9, ty5, ty3, ty26, h2, hc, w1, w2]
  rw [xl16_0]
  simp only [B16_0, b16, Tryd.f16, Option.getD, fstC, sndC, bodyC, thnC, elsC]
  simp [xI_seq, xI_region, xI_ret, regA, regOps, runOps, opStep, wantedA, opA, evo, evos, calleeA, lk, nif_eq, putE, paramsE, valS, val2, keepE, restrict, finA, resA, binA, binInt, ofConst, ofConst1, loadA, TK.isAgg, asVar, unA, builtinA, lenOpA, lenA, ileb_cast, ileb_eq, ieqb_dec, indexAddrA, inB_dec, evPairs, storeA, AV.cellsOf, pairsOf, xI_nil, binBool, gcE, evOpt, tagZ, isI64, pureLd, loadP, boxP, xI_block, xI_loopH, xI_condM, xI_exitM, xI_skip, xI_blk, exitA, ty2, ty3, ty5, ty9, eK16_0_0, eK16_1_2, eK16_1_1, eK16_1_0, runTr, pairsOk, pairOk, lstAt, lastOf, sameVal, AV.eqv, eqvs, eqvs_ints, regOps, blt_dec, cond_true, cond_false, fieldAddrA, allOne, AV.one, buildA, sizesOf, fillA, putCells, n_push, indexA, ty2, ty9, ty5, ty3, ty26]
  rfl
theorem l16 (n : Nat) (hn : n ≤ 1000000) (s : List UInt8) (hs : s.length ≤ 400) (hb : s.all isBit = true) (σ : St) : ∀ (t : List UInt8) (v c u : Nat), s.drop u = t → u ≤ s.length → v < 2 * n → c < v →
    exI TT (FI.of Tryd.f16 (TT.an 16)) K16_1 [(0, .int .i64 n), (1, .str s), (7, .int .i64 v), (8, .int .i64 c), (9, .int .i64 u)] σ = some (rollV (diceG n t v c u), σ) := by
  intro t
  induction t with
  | nil =>
    intro v c u hd hu hv hc
    have : (s.drop u).length = 0 := by rw [hd]; rfl
    rw [List.length_drop] at this
    obtain rfl : u = s.length := by omega
    rw [diceG]
    by_cases h1 : v < n
    · rw [if_pos h1]; exact a16 n v c s σ h1
    · rw [if_neg h1]
      by_cases h2 : c < n
      · rw [if_pos h2]; exact c16n n v c s.length s σ h1 h2
      · rw [if_neg h2, d16 n v c s.length s σ h1 h2 (by omega) (by omega)]; exact a16 n (v - n) (c - n) s σ (by omega)
  | cons x t ih =>
    intro v c u hd hu hv hc
    obtain ⟨g1, g2, g3⟩ := dp1 hd
    have hxb : x = 48 ∨ x = 49 := by
      have := List.all_eq_true.1 hb x (List.mem_of_getElem? g2)
      rw [isBit] at this
      simpa using this
    obtain ⟨q, hq⟩ : ∃ q : Nat, q = if x = 49 then 1 else 0 := ⟨_, rfl⟩
    have hq1 : q ≤ 1 := by rw [hq]; split <;> omega
    have hxq : wrapA .u8 ((x.toNat : Int) - 48) = (q : Int) := by rw [hq]; rcases hxb with rfl | rfl <;> rfl
    have hqq : wrapA .i64 (q : Int) = (q : Int) := wrapA_id (by omega) (by omega)
    rw [diceG, ← hq]
    by_cases h1 : v < n
    · rw [if_pos h1, b16n n v c u q x s σ hn hs h1 hc g1 g2 hq1 hxq]
      exact ih (2 * v) (2 * c + q) (u + 1) g3 g1 (by omega) (by omega)
    · rw [if_neg h1]
      by_cases h2 : c < n
      · rw [if_pos h2]; exact c16n n v c u s σ h1 h2
      · rw [if_neg h2, d16 n v c u s σ h1 h2 (by omega) (by omega), b16n n (v - n) (c - n) u q x s σ hn hs (by omega) (by omega) g1 g2 hq1 hxq]
        exact ih (2 * (v - n)) (2 * (c - n) + q) (u + 1) g3 g1 (by omega) (by omega)
/-- A roll of a die. -/
def diceF (n : Nat) (s : List UInt8) : Option (Nat × Nat) := diceG n s 1 0 0
theorem v16 {n : Nat} (h1 : 1 ≤ n) (h2 : n ≤ 1000000) (s : List UInt8) (hs : s.length ≤ 400) (hb : s.all isBit = true) : FnV TT 16 [.int .i64 n, .str s] (rollV (diceF n s)) := by
  have h := l16 n h2 s hs hb ⟨[], 0⟩ s 1 0 0 rfl (Nat.zero_le _) (by omega) (by omega)
  refine FnV.mk fn16 rfl md16 ⟨⟨[], 0⟩, ?_⟩ (rollV_frz _) (rollV_scal _)
  rw [diceF, ← h, fi16]
  clear h
  simp [xI_seq, xI_region, xI_ret, regA, regOps, runOps, opStep, wantedA, opA, evo, evos, calleeA, lk, nif_eq, putE, paramsE, valS, val2, keepE, restrict, finA, resA, binA, binInt, ofConst, ofConst1, loadA, TK.isAgg, asVar, unA, builtinA, lenOpA, lenA, ileb_cast, ileb_eq, ieqb_dec, indexAddrA, inB_dec, evPairs, storeA, AV.cellsOf, pairsOf, xI_nil, binBool, gcE, evOpt, tagZ, isI64, pureLd, loadP, boxP, xI_block, xI_loopH, xI_condM, xI_exitM, xI_skip, xI_blk, exitA, ty2, ty3, ty5, ty9, eK16_0_0, eK16_1_2, eK16_1_1, eK16_1_0, runTr, pairsOk, pairOk, lstAt, lastOf, sameVal, AV.eqv, eqvs, eqvs_ints, regOps, blt_dec, cond_true, cond_false, fieldAddrA, allOne, AV.one, buildA, sizesOf, fillA, putCells, n_push, indexA, ty2, ty9, ty5, ty3, ty26]
  change exI TT _ K16_0 _ _ = _
  rw [xl16_0]
  simp only [B16_0, b16, Tryd.f16, Option.getD, fstC, sndC, bodyC, thnC, elsC]
  simp [xI_seq, xI_region, xI_ret, regA, regOps, runOps, opStep, wantedA, opA, evo, evos, calleeA, lk, nif_eq, putE, paramsE, valS, val2, keepE, restrict, finA, resA, binA, binInt, ofConst, ofConst1, loadA, TK.isAgg, asVar, unA, builtinA, lenOpA, lenA, ileb_cast, ileb_eq, ieqb_dec, indexAddrA, inB_dec, evPairs, storeA, AV.cellsOf, pairsOf, xI_nil, binBool, gcE, evOpt, tagZ, isI64, pureLd, loadP, boxP, xI_block, xI_loopH, xI_condM, xI_exitM, xI_skip, xI_blk, exitA, ty2, ty3, ty5, ty9, eK16_0_0, eK16_1_2, eK16_1_1, eK16_1_0, runTr, pairsOk, pairOk, lstAt, lastOf, sameVal, AV.eqv, eqvs, eqvs_ints, regOps, blt_dec, cond_true, cond_false, fieldAddrA, allOne, AV.one, buildA, sizesOf, fillA, putCells, n_push, indexA, ty2, ty9, ty5, ty3, ty26]
  rfl

theorem v8 {n : Nat} (h1 : 1 ≤ n) (h2 : n ≤ 1000000) (s : List UInt8) (hs : s.length ≤ 400) (hb : s.all isBit = true) : FnV TT 8 [.int .i64 n, .str s] (rollV (diceF n s)) := by
  have c1 := v12 h1 h2 ⟨[], 0⟩ [.int .i64 n] rfl
  have c3 := c13 s (by omega) ⟨[], 0⟩
  rw [show isBits s = true by simp [isBits, hs, hb]] at c3
  have c2 := v16 h1 h2 s hs hb ⟨[], 0⟩ [.int .i64 n, .str s] rfl
  refine FnV.mk fn8 rfl md8 ⟨⟨[], 0⟩, ?_⟩ (rollV_frz _) (rollV_scal _)
  rw [fi8]
  cases hd : diceF n s with
  | none =>
    rw [hd, rollV] at c2
    rw [rollV]
    simp [xI_seq, xI_region, xI_ret, regA, regOps, runOps, opStep, wantedA, opA, evo, evos, calleeA, lk, nif_eq, putE, paramsE, valS, val2, keepE, restrict, finA, resA, binA, binInt, ofConst, ofConst1, loadA, TK.isAgg, asVar, unA, builtinA, lenOpA, lenA, ileb_cast, ileb_eq, ieqb_dec, indexAddrA, inB_dec, evPairs, storeA, AV.cellsOf, pairsOf, xI_nil, binBool, gcE, evOpt, tagZ, isI64, pureLd, loadP, boxP, xI_block, xI_loopH, xI_condM, xI_exitM, xI_skip, xI_blk, exitA, ty4, runTr, pairsOk, pairOk, lstAt, lastOf, sameVal, AV.eqv, eqvs, eqvs_ints, regOps, blt_dec, cond_true, cond_false, fieldAddrA, allOne, AV.one, buildA, sizesOf, fillA, putCells, n_push, indexA, ty2, ty9, ty5, ty3, ty26, c1, c2, c3]
  | some q =>
    obtain ⟨a, b⟩ := q
    rw [hd, rollV] at c2
    rw [rollV]
    simp [xI_seq, xI_region, xI_ret, regA, regOps, runOps, opStep, wantedA, opA, evo, evos, calleeA, lk, nif_eq, putE, paramsE, valS, val2, keepE, restrict, finA, resA, binA, binInt, ofConst, ofConst1, loadA, TK.isAgg, asVar, unA, builtinA, lenOpA, lenA, ileb_cast, ileb_eq, ieqb_dec, indexAddrA, inB_dec, evPairs, storeA, AV.cellsOf, pairsOf, xI_nil, binBool, gcE, evOpt, tagZ, isI64, pureLd, loadP, boxP, xI_block, xI_loopH, xI_condM, xI_exitM, xI_skip, xI_blk, exitA, ty4, runTr, pairsOk, pairOk, lstAt, lastOf, sameVal, AV.eqv, eqvs, eqvs_ints, regOps, blt_dec, cond_true, cond_false, fieldAddrA, allOne, AV.one, buildA, sizesOf, fillA, putCells, n_push, indexA, ty2, ty9, ty5, ty3, ty26, c1, c2, c3]

end Go.Proofs.YtjecbjnckbihoaaDoor
