/- Contracts of the law's helpers. Nothing is claimed here; no condition. -/
import Derived.Test.YtaniaeefijgaiaaCa
namespace Go.Proofs.Ytaniaeefijgaiaa
open Go Go.Abs
set_option linter.unusedSimpArgs false
set_option linter.unusedVariables false
noncomputable def b21 : Code := Try.f21.body.getD .skip
noncomputable def B21_0 : Code := (bodyC (bodyC (sndC (fstC (sndC (sndC b21))))))
noncomputable def K21_0 : List It := .lp B21_0 :: .blk 0 :: .code (sndC (sndC (sndC b21))) :: []
theorem xl21_0 {fi : FI} {env : Env} {σ : St} : exI TT fi K21_0 env σ = exI TT fi (.code B21_0 :: K21_0) env σ := by unfold K21_0; exact xI_lp
noncomputable def R21_0_0 : List It := .code (sndC (sndC (sndC b21))) :: []
theorem eK21_0_0 : exitA 0 K21_0 = some R21_0_0 := rfl
theorem l21 (l : List Int) (len : Nat) (hlen : len = l.length) (hs : len < 1000000000000) : ∀ (suf pre : List Int) (σ : St) (b : Nat) (z : List Int), l = pre ++ suf → z.length = suf.length → Row σ b (pre ++ z) →
    ∃ σ', exI TT (FI.of Try.f21 (TT.an 21)) K21_0 [(0, .lst len (ints l)), (3, .sl b 0 len len), (4, .int .i64 pre.length)] σ = some (.sl b 0 len len, σ') ∧ Row σ' b l := by
  intro suf
  induction suf with
  | nil =>
    intro pre σ b z hl hz hr
    have hz : z = [] := by simpa using hz
    subst hz
    have hl : l = pre := by simpa using hl
    subst hl
    refine ⟨σ, ?_, by simpa using hr⟩
    subst hlen
    rw [fi21]
    rw [xl21_0]
    simp only [B21_0, b21, Try.f21, Option.getD, fstC, sndC, bodyC, thnC, elsC]
    simp [xI_seq, xI_region, xI_ret, regA, regOps, runOps, opStep, wantedA, opA, evo, evos, calleeA, lk, nif_eq, putE, paramsE, valS, val2, keepE, restrict, finA, resA, binA, binInt, ofConst, ofConst1, loadA, TK.isAgg, asVar, unA, builtinA, lenOpA, lenA, ileb_cast, ileb_eq, ieqb_dec, indexAddrA, inB_dec, evPairs, storeA, AV.cellsOf, pairsOf, xI_nil, binBool, gcE, evOpt, xI_block, xI_loopH, xI_condM, xI_exitM, xI_skip, xI_blk, exitA, ty2, ty3, ty22, eK21_0_0]
    simp only [R21_0_0, b21, Try.f21, Option.getD, fstC, sndC, bodyC, thnC, elsC]
    simp [xI_seq, xI_region, xI_ret, regA, regOps, runOps, opStep, wantedA, opA, evo, evos, calleeA, lk, nif_eq, putE, paramsE, valS, val2, keepE, restrict, finA, resA, binA, binInt, ofConst, ofConst1, loadA, TK.isAgg, asVar, unA, builtinA, lenOpA, lenA, ileb_cast, ileb_eq, ieqb_dec, indexAddrA, inB_dec, evPairs, storeA, AV.cellsOf, pairsOf, xI_nil, binBool, gcE, evOpt, xI_block, xI_loopH, xI_condM, xI_exitM, xI_skip, xI_blk, exitA, ty2, ty3, ty22, eK21_0_0]
  | cons x suf ih =>
    intro pre σ b z hl hz hr
    obtain ⟨y, z, rfl⟩ : ∃ y z', z = y :: z' := by cases z with | nil => simp at hz | cons y z => exact ⟨y, z, rfl⟩
    have hg : l[pre.length]? = some x := by simp [hl]
    have hll : len = pre.length + (suf.length + 1) := by rw [hlen, hl]; simp
    obtain ⟨σ1, hst, hr1, hn1, _⟩ := store_row (i := pre.length) (x := x) hr (by simp)
    rw [set_app] at hr1
    obtain ⟨σ', h1, h2⟩ := ih (pre ++ [x]) σ1 b z (by simp [hl]) (by simpa using hz) (by simpa using hr1)
    refine ⟨σ', ?_, h2⟩
    have hlt : ¬ len ≤ pre.length := by omega
    have hlt2 : pre.length < len := by omega
    have hw := wrapS (n := pre.length) (by omega)
    rw [fi21] at h1 ⊢
    rw [xl21_0]
    simp only [B21_0, b21, Try.f21, Option.getD, fstC, sndC, bodyC, thnC, elsC]
    simp [xI_seq, xI_region, xI_ret, regA, regOps, runOps, opStep, wantedA, opA, evo, evos, calleeA, lk, nif_eq, putE, paramsE, valS, val2, keepE, restrict, finA, resA, binA, binInt, ofConst, ofConst1, loadA, TK.isAgg, asVar, unA, builtinA, lenOpA, lenA, ileb_cast, ileb_eq, ieqb_dec, indexAddrA, inB_dec, evPairs, storeA, AV.cellsOf, pairsOf, xI_nil, binBool, gcE, evOpt, xI_block, xI_loopH, xI_condM, xI_exitM, xI_skip, xI_blk, exitA, ty2, ty3, ty22, eK21_0_0, hw, hlt, hlt2, lst_read hg, hst]
    simpa using h1
theorem s21 (l : List Int) (len : Nat) (hlen : len = l.length) (hs : len < 1000000000000) : FnS TT 21 [.lst len (ints l)] l := by
  obtain ⟨σ', h1, o, h2, _⟩ := l21 l len hlen hs l [] ((⟨[], 0⟩ : St).push ⟨ints (List.replicate len 0), 1, false⟩) 0 (List.replicate len 0) rfl (by simp [hlen]) Row.push
  refine FnS.mk fn21 rfl md21 ⟨σ', 0, o, ?_, h2⟩
  rw [← hlen, ← h1]
  have hm := mk22 ⟨[], 0⟩ len (by omega)
  rw [fi21]
  simp [xI_seq, xI_region, xI_ret, regA, regOps, runOps, opStep, wantedA, opA, evo, evos, calleeA, lk, nif_eq, putE, paramsE, valS, val2, keepE, restrict, finA, resA, binA, binInt, ofConst, ofConst1, loadA, TK.isAgg, asVar, unA, builtinA, lenOpA, lenA, ileb_cast, ileb_eq, ieqb_dec, indexAddrA, inB_dec, evPairs, storeA, AV.cellsOf, pairsOf, xI_nil, binBool, gcE, evOpt, xI_block, xI_loopH, xI_condM, xI_exitM, xI_skip, xI_blk, exitA, ty2, ty3, ty22, eK21_0_0, hm]
  rfl
theorem l21n (σ : St) (b : Nat) : exI TT (FI.of Try.f21 (TT.an 21)) K21_0 [(0, .nilS), (3, .sl b 0 0 0), (4, .int .i64 0)] σ = some (.sl b 0 0 0, σ) := by
  rw [fi21]
  rw [xl21_0]
  simp only [B21_0, b21, Try.f21, Option.getD, fstC, sndC, bodyC, thnC, elsC]
  simp [xI_seq, xI_region, xI_ret, regA, regOps, runOps, opStep, wantedA, opA, evo, evos, calleeA, lk, nif_eq, putE, paramsE, valS, val2, keepE, restrict, finA, resA, binA, binInt, ofConst, ofConst1, loadA, TK.isAgg, asVar, unA, builtinA, lenOpA, lenA, ileb_cast, ileb_eq, ieqb_dec, indexAddrA, inB_dec, evPairs, storeA, AV.cellsOf, pairsOf, xI_nil, binBool, gcE, evOpt, xI_block, xI_loopH, xI_condM, xI_exitM, xI_skip, xI_blk, exitA, ty2, ty3, ty22, eK21_0_0]
  simp only [R21_0_0, b21, Try.f21, Option.getD, fstC, sndC, bodyC, thnC, elsC]
  simp [xI_seq, xI_region, xI_ret, regA, regOps, runOps, opStep, wantedA, opA, evo, evos, calleeA, lk, nif_eq, putE, paramsE, valS, val2, keepE, restrict, finA, resA, binA, binInt, ofConst, ofConst1, loadA, TK.isAgg, asVar, unA, builtinA, lenOpA, lenA, ileb_cast, ileb_eq, ieqb_dec, indexAddrA, inB_dec, evPairs, storeA, AV.cellsOf, pairsOf, xI_nil, binBool, gcE, evOpt, xI_block, xI_loopH, xI_condM, xI_exitM, xI_skip, xI_blk, exitA, ty2, ty3, ty22, eK21_0_0]
theorem s21n : FnS TT 21 [.nilS] [] := by
  refine FnS.mk fn21 rfl md21 ⟨(⟨[], 0⟩ : St).push ⟨ints [], 1, false⟩, 0, false, ?_, rfl⟩
  have hm := mk22 ⟨[], 0⟩ 0 (by omega)
  have h1 := l21n ((⟨[], 0⟩ : St).push ⟨ints [], 1, false⟩) 0
  simp only [Int.natCast_zero, show ((0 : Nat) : Int) = 0 from rfl] at hm
  rw [fi21] at h1 ⊢
  simp [xI_seq, xI_region, xI_ret, regA, regOps, runOps, opStep, wantedA, opA, evo, evos, calleeA, lk, nif_eq, putE, paramsE, valS, val2, keepE, restrict, finA, resA, binA, binInt, ofConst, ofConst1, loadA, TK.isAgg, asVar, unA, builtinA, lenOpA, lenA, ileb_cast, ileb_eq, ieqb_dec, indexAddrA, inB_dec, evPairs, storeA, AV.cellsOf, pairsOf, xI_nil, binBool, gcE, evOpt, xI_block, xI_loopH, xI_condM, xI_exitM, xI_skip, xI_blk, exitA, ty2, ty3, ty22, eK21_0_0, hm]
  exact h1

noncomputable def b23 : Code := Try.f23.body.getD .skip
noncomputable def B23_0 : Code := (bodyC (bodyC (sndC (fstC (sndC (sndC b23))))))
noncomputable def K23_0 : List It := .lp B23_0 :: .blk 0 :: .code (sndC (sndC (sndC b23))) :: []
theorem xl23_0 {fi : FI} {env : Env} {σ : St} : exI TT fi K23_0 env σ = exI TT fi (.code B23_0 :: K23_0) env σ := by unfold K23_0; exact xI_lp
noncomputable def R23_0_0 : List It := .code (sndC (sndC (sndC b23))) :: []
theorem eK23_0_0 : exitA 0 K23_0 = some R23_0_0 := rfl
theorem l23 (a b : List Int) (len : Nat) (hlen : len = a.length) (hlen2 : len = b.length) (hs : len < 1000000000000) (σ : St) : ∀ (suf suf2 pre pre2 : List Int), a = pre ++ suf → b = pre2 ++ suf2 → pre.length = pre2.length →
    exI TT (FI.of Try.f23 (TT.an 23)) K23_0 [(0, .lst len (ints a)), (1, .lst len (ints b)), (5, .int .i64 pre.length)] σ = some (.bool (decide (suf = suf2)), σ) := by
  intro suf
  induction suf with
  | nil =>
    intro suf2 pre pre2 ha hb hp
    have h0 : suf2 = [] := by
      have := congrArg List.length ha; have := congrArg List.length hb; simp at *; cases suf2 with | nil => rfl | cons y z => simp at *; omega
    subst h0
    have hl : len = pre.length := by rw [hlen, ha]; simp
    subst hl
    rw [fi23]
    rw [xl23_0]
    simp only [B23_0, b23, Try.f23, Option.getD, fstC, sndC, bodyC, thnC, elsC]
    simp [xI_seq, xI_region, xI_ret, regA, regOps, runOps, opStep, wantedA, opA, evo, evos, calleeA, lk, nif_eq, putE, paramsE, valS, val2, keepE, restrict, finA, resA, binA, binInt, ofConst, ofConst1, loadA, TK.isAgg, asVar, unA, builtinA, lenOpA, lenA, ileb_cast, ileb_eq, ieqb_dec, indexAddrA, inB_dec, evPairs, storeA, AV.cellsOf, pairsOf, xI_nil, binBool, gcE, evOpt, xI_block, xI_loopH, xI_condM, xI_exitM, xI_skip, xI_blk, exitA, ty2, ty3, ty22, eK23_0_0]
    simp only [R23_0_0, b23, Try.f23, Option.getD, fstC, sndC, bodyC, thnC, elsC]
    simp [xI_seq, xI_region, xI_ret, regA, regOps, runOps, opStep, wantedA, opA, evo, evos, calleeA, lk, nif_eq, putE, paramsE, valS, val2, keepE, restrict, finA, resA, binA, binInt, ofConst, ofConst1, loadA, TK.isAgg, asVar, unA, builtinA, lenOpA, lenA, ileb_cast, ileb_eq, ieqb_dec, indexAddrA, inB_dec, evPairs, storeA, AV.cellsOf, pairsOf, xI_nil, binBool, gcE, evOpt, xI_block, xI_loopH, xI_condM, xI_exitM, xI_skip, xI_blk, exitA, ty2, ty3, ty22, eK23_0_0]
  | cons x suf ih =>
    intro suf2 pre pre2 ha hb hp
    obtain ⟨y, suf2, rfl⟩ : ∃ y z', suf2 = y :: z' := by
      cases suf2 with
      | nil => have := congrArg List.length ha; have := congrArg List.length hb; simp at *; omega
      | cons y z => exact ⟨y, z, rfl⟩
    have hg : a[pre.length]? = some x := by simp [ha]
    have hg2 : b[pre.length]? = some y := by simp [hb, hp]
    have hll : len = pre.length + (suf.length + 1) := by rw [hlen, ha]; simp
    have h1 := ih suf2 (pre ++ [x]) (pre2 ++ [y]) (by simp [ha]) (by simp [hb]) (by simp [hp])
    have hlt : ¬ len ≤ pre.length := by omega
    have hlt2 : pre.length < len := by omega
    have hw := wrapS (n := pre.length) (by omega)
    by_cases hxy : x = y
    · subst hxy
      rw [fi23] at h1 ⊢
      rw [xl23_0]
      simp only [B23_0, b23, Try.f23, Option.getD, fstC, sndC, bodyC, thnC, elsC]
      simp [xI_seq, xI_region, xI_ret, regA, regOps, runOps, opStep, wantedA, opA, evo, evos, calleeA, lk, nif_eq, putE, paramsE, valS, val2, keepE, restrict, finA, resA, binA, binInt, ofConst, ofConst1, loadA, TK.isAgg, asVar, unA, builtinA, lenOpA, lenA, ileb_cast, ileb_eq, ieqb_dec, indexAddrA, inB_dec, evPairs, storeA, AV.cellsOf, pairsOf, xI_nil, binBool, gcE, evOpt, xI_block, xI_loopH, xI_condM, xI_exitM, xI_skip, xI_blk, exitA, ty2, ty3, ty22, eK23_0_0, hw, hlt, hlt2, lst_read hg, lst_read hg2]
      simpa using h1
    · rw [fi23]
      rw [xl23_0]
      simp only [B23_0, b23, Try.f23, Option.getD, fstC, sndC, bodyC, thnC, elsC]
      simp [xI_seq, xI_region, xI_ret, regA, regOps, runOps, opStep, wantedA, opA, evo, evos, calleeA, lk, nif_eq, putE, paramsE, valS, val2, keepE, restrict, finA, resA, binA, binInt, ofConst, ofConst1, loadA, TK.isAgg, asVar, unA, builtinA, lenOpA, lenA, ileb_cast, ileb_eq, ieqb_dec, indexAddrA, inB_dec, evPairs, storeA, AV.cellsOf, pairsOf, xI_nil, binBool, gcE, evOpt, xI_block, xI_loopH, xI_condM, xI_exitM, xI_skip, xI_blk, exitA, ty2, ty3, ty22, eK23_0_0, hw, hlt, hlt2, lst_read hg, lst_read hg2, hxy]
theorem v23 (a b : List Int) (n m : Nat) (hn : n = a.length) (hm : m = b.length) (hs : n < 1000000000000) : FnV TT 23 [.lst n (ints a), .lst m (ints b)] (.bool (decide (a = b))) := by
  refine FnV.mk fn23 rfl md23 ⟨⟨[], 0⟩, ?_⟩ (fun _ => rfl) rfl
  by_cases hnm : n = m
  · subst hnm
    have h1 := l23 a b n hn hm hs ⟨[], 0⟩ a b [] [] rfl rfl rfl
    rw [fi23] at h1 ⊢
    simp [xI_seq, xI_region, xI_ret, regA, regOps, runOps, opStep, wantedA, opA, evo, evos, calleeA, lk, nif_eq, putE, paramsE, valS, val2, keepE, restrict, finA, resA, binA, binInt, ofConst, ofConst1, loadA, TK.isAgg, asVar, unA, builtinA, lenOpA, lenA, ileb_cast, ileb_eq, ieqb_dec, indexAddrA, inB_dec, evPairs, storeA, AV.cellsOf, pairsOf, xI_nil, binBool, gcE, evOpt, xI_block, xI_loopH, xI_condM, xI_exitM, xI_skip, xI_blk, exitA, ty2, ty3, ty22, eK23_0_0]
    exact h1
  · have hab : a ≠ b := fun e => hnm (by rw [hn, hm, e])
    have hnm' : ¬ (n : Int) = m := by omega
    rw [fi23]
    simp [xI_seq, xI_region, xI_ret, regA, regOps, runOps, opStep, wantedA, opA, evo, evos, calleeA, lk, nif_eq, putE, paramsE, valS, val2, keepE, restrict, finA, resA, binA, binInt, ofConst, ofConst1, loadA, TK.isAgg, asVar, unA, builtinA, lenOpA, lenA, ileb_cast, ileb_eq, ieqb_dec, indexAddrA, inB_dec, evPairs, storeA, AV.cellsOf, pairsOf, xI_nil, binBool, gcE, evOpt, xI_block, xI_loopH, xI_condM, xI_exitM, xI_skip, xI_blk, exitA, ty2, ty3, ty22, eK23_0_0, hnm, hnm', hab]
theorem v23n : FnV TT 23 [.nilS, .nilS] (.bool true) := by
  refine FnV.mk fn23 rfl md23 ⟨⟨[], 0⟩, ?_⟩ (fun _ => rfl) rfl
  have h1 : exI TT (FI.of Try.f23 (TT.an 23)) K23_0 [(0, .nilS), (1, .nilS), (5, .int .i64 0)] ⟨[], 0⟩ = some (.bool true, ⟨[], 0⟩) := by
    rw [fi23]
    rw [xl23_0]
    simp only [B23_0, b23, Try.f23, Option.getD, fstC, sndC, bodyC, thnC, elsC]
    simp [xI_seq, xI_region, xI_ret, regA, regOps, runOps, opStep, wantedA, opA, evo, evos, calleeA, lk, nif_eq, putE, paramsE, valS, val2, keepE, restrict, finA, resA, binA, binInt, ofConst, ofConst1, loadA, TK.isAgg, asVar, unA, builtinA, lenOpA, lenA, ileb_cast, ileb_eq, ieqb_dec, indexAddrA, inB_dec, evPairs, storeA, AV.cellsOf, pairsOf, xI_nil, binBool, gcE, evOpt, xI_block, xI_loopH, xI_condM, xI_exitM, xI_skip, xI_blk, exitA, ty2, ty3, ty22, eK23_0_0]
    simp only [R23_0_0, b23, Try.f23, Option.getD, fstC, sndC, bodyC, thnC, elsC]
    simp [xI_seq, xI_region, xI_ret, regA, regOps, runOps, opStep, wantedA, opA, evo, evos, calleeA, lk, nif_eq, putE, paramsE, valS, val2, keepE, restrict, finA, resA, binA, binInt, ofConst, ofConst1, loadA, TK.isAgg, asVar, unA, builtinA, lenOpA, lenA, ileb_cast, ileb_eq, ieqb_dec, indexAddrA, inB_dec, evPairs, storeA, AV.cellsOf, pairsOf, xI_nil, binBool, gcE, evOpt, xI_block, xI_loopH, xI_condM, xI_exitM, xI_skip, xI_blk, exitA, ty2, ty3, ty22, eK23_0_0]
  rw [fi23] at h1 ⊢
  simp [xI_seq, xI_region, xI_ret, regA, regOps, runOps, opStep, wantedA, opA, evo, evos, calleeA, lk, nif_eq, putE, paramsE, valS, val2, keepE, restrict, finA, resA, binA, binInt, ofConst, ofConst1, loadA, TK.isAgg, asVar, unA, builtinA, lenOpA, lenA, ileb_cast, ileb_eq, ieqb_dec, indexAddrA, inB_dec, evPairs, storeA, AV.cellsOf, pairsOf, xI_nil, binBool, gcE, evOpt, xI_block, xI_loopH, xI_condM, xI_exitM, xI_skip, xI_blk, exitA, ty2, ty3, ty22, eK23_0_0]
  exact h1

noncomputable def b24 : Code := Try.f24.body.getD .skip
noncomputable def B24_0 : Code := (bodyC (bodyC (sndC (fstC (sndC b24)))))
noncomputable def K24_0 : List It := .lp B24_0 :: .blk 0 :: .code (sndC (sndC b24)) :: []
theorem xl24_0 {fi : FI} {env : Env} {σ : St} : exI TT fi K24_0 env σ = exI TT fi (.code B24_0 :: K24_0) env σ := by unfold K24_0; exact xI_lp
noncomputable def R24_0_0 : List It := .code (sndC (sndC b24)) :: []
theorem eK24_0_0 : exitA 0 K24_0 = some R24_0_0 := rfl
theorem l24 (b n : Nat) (hs : n < 1000000000000) : ∀ (suf pre : List Int) (k : Nat) (σ : St), n = pre.length + suf.length → k + suf.length < 1000000000000 → Row σ b (pre ++ suf) →
    ∃ σ', exI TT (FI.of Try.f24 (TT.an 24)) K24_0 [(0, .sl b 0 n n), (1, .int .i64 k), (5, .int .i64 pre.length)] σ = some (.int .i64 (k + suf.length : Nat), σ') ∧ Row σ' b (pre ++ iotaF k suf.length) ∧ But b σ σ' := by
  intro suf
  induction suf with
  | nil =>
    intro pre k σ hn hk hr
    have hn : n = pre.length := by simpa using hn
    subst hn
    refine ⟨σ, ?_, by simpa [iotaF] using hr, rfl, fun _ _ => rfl⟩
    rw [fi24]
    rw [xl24_0]
    simp only [B24_0, b24, Try.f24, Option.getD, fstC, sndC, bodyC, thnC, elsC]
    simp [xI_seq, xI_region, xI_ret, regA, regOps, runOps, opStep, wantedA, opA, evo, evos, calleeA, lk, nif_eq, putE, paramsE, valS, val2, keepE, restrict, finA, resA, binA, binInt, ofConst, ofConst1, loadA, TK.isAgg, asVar, unA, builtinA, lenOpA, lenA, ileb_cast, ileb_eq, ieqb_dec, indexAddrA, inB_dec, evPairs, storeA, AV.cellsOf, pairsOf, xI_nil, binBool, gcE, evOpt, xI_block, xI_loopH, xI_condM, xI_exitM, xI_skip, xI_blk, exitA, ty2, ty3, ty22, eK24_0_0]
    simp only [R24_0_0, b24, Try.f24, Option.getD, fstC, sndC, bodyC, thnC, elsC]
    simp [xI_seq, xI_region, xI_ret, regA, regOps, runOps, opStep, wantedA, opA, evo, evos, calleeA, lk, nif_eq, putE, paramsE, valS, val2, keepE, restrict, finA, resA, binA, binInt, ofConst, ofConst1, loadA, TK.isAgg, asVar, unA, builtinA, lenOpA, lenA, ileb_cast, ileb_eq, ieqb_dec, indexAddrA, inB_dec, evPairs, storeA, AV.cellsOf, pairsOf, xI_nil, binBool, gcE, evOpt, xI_block, xI_loopH, xI_condM, xI_exitM, xI_skip, xI_blk, exitA, ty2, ty3, ty22, eK24_0_0]
  | cons x suf ih =>
    intro pre k σ hn hk hr
    have hk' : k + (suf.length + 1) < 1000000000000 := by simpa using hk
    have hn : n = pre.length + (suf.length + 1) := by simpa using hn
    obtain ⟨σ1, hst, hr1, hn1, ho1⟩ := store_row (i := pre.length) (x := k) hr (by simp)
    rw [set_app] at hr1
    obtain ⟨σ', h1, h2, h3, h4⟩ := ih (pre ++ [(k : Int)]) (k + 1) σ1 (by simp; omega) (by simp at hk; omega) (by simpa using hr1)
    refine ⟨σ', ?_, by simpa [iotaF] using h2, h3.trans hn1, fun c hc => (h4 c hc).trans (ho1 c hc)⟩
    have hlt : ¬ n ≤ pre.length := by omega
    have hlt2 : pre.length < n := by omega
    have hw := wrapS (n := pre.length) (by omega)
    have hw2 := wrapS (n := k) (by omega)
    rw [fi24] at h1 ⊢
    rw [xl24_0]
    simp only [B24_0, b24, Try.f24, Option.getD, fstC, sndC, bodyC, thnC, elsC]
    simp [xI_seq, xI_region, xI_ret, regA, regOps, runOps, opStep, wantedA, opA, evo, evos, calleeA, lk, nif_eq, putE, paramsE, valS, val2, keepE, restrict, finA, resA, binA, binInt, ofConst, ofConst1, loadA, TK.isAgg, asVar, unA, builtinA, lenOpA, lenA, ileb_cast, ileb_eq, ieqb_dec, indexAddrA, inB_dec, evPairs, storeA, AV.cellsOf, pairsOf, xI_nil, binBool, gcE, evOpt, xI_block, xI_loopH, xI_condM, xI_exitM, xI_skip, xI_blk, exitA, ty2, ty3, ty22, eK24_0_0, hw, hw2, hlt, hlt2, hst]
    rw [show ((k : Int) + ((suf.length : Int) + 1)) = (k : Int) + 1 + suf.length by omega]
    simpa using h1

theorem m24 (σ : St) (b n k : Nat) (l : List Int) (hn : n = l.length) (hs : n < 2000000) (hk : k < 2000000) (hr : Row σ b l) :
    ∃ σ', callI TT 24 [.sl b 0 n n, .int .i64 k] σ = some (.int .i64 (k + n : Nat), σ') ∧ Row σ' b (iotaF k n) ∧ But b σ σ' := by
  obtain ⟨σ', h1, h2, h3, h4⟩ := l24 b n (by omega) l [] k σ (by simp [hn]) (by omega) hr
  refine ⟨σ', ?_, by simpa [hn] using h2, h3, h4⟩
  rw [cI_0 fn24 rfl md24]
  rw [← hn] at h1
  rw [← h1, fi24]
  simp [xI_seq, xI_region, xI_ret, regA, regOps, runOps, opStep, wantedA, opA, evo, evos, calleeA, lk, nif_eq, putE, paramsE, valS, val2, keepE, restrict, finA, resA, binA, binInt, ofConst, ofConst1, loadA, TK.isAgg, asVar, unA, builtinA, lenOpA, lenA, ileb_cast, ileb_eq, ieqb_dec, indexAddrA, inB_dec, evPairs, storeA, AV.cellsOf, pairsOf, xI_nil, binBool, gcE, evOpt, xI_block, xI_loopH, xI_condM, xI_exitM, xI_skip, xI_blk, exitA, ty2, ty3, ty22, eK24_0_0]
  rfl
theorem m24n (σ : St) (k : Nat) : callI TT 24 [.nilS, .int .i64 k] σ = some (.int .i64 k, σ) := by
  have h1 : exI TT (FI.of Try.f24 (TT.an 24)) K24_0 [(0, .nilS), (1, .int .i64 k), (5, .int .i64 0)] σ = some (.int .i64 k, σ) := by
    rw [fi24]
    rw [xl24_0]
    simp only [B24_0, b24, Try.f24, Option.getD, fstC, sndC, bodyC, thnC, elsC]
    simp [xI_seq, xI_region, xI_ret, regA, regOps, runOps, opStep, wantedA, opA, evo, evos, calleeA, lk, nif_eq, putE, paramsE, valS, val2, keepE, restrict, finA, resA, binA, binInt, ofConst, ofConst1, loadA, TK.isAgg, asVar, unA, builtinA, lenOpA, lenA, ileb_cast, ileb_eq, ieqb_dec, indexAddrA, inB_dec, evPairs, storeA, AV.cellsOf, pairsOf, xI_nil, binBool, gcE, evOpt, xI_block, xI_loopH, xI_condM, xI_exitM, xI_skip, xI_blk, exitA, ty2, ty3, ty22, eK24_0_0]
    simp only [R24_0_0, b24, Try.f24, Option.getD, fstC, sndC, bodyC, thnC, elsC]
    simp [xI_seq, xI_region, xI_ret, regA, regOps, runOps, opStep, wantedA, opA, evo, evos, calleeA, lk, nif_eq, putE, paramsE, valS, val2, keepE, restrict, finA, resA, binA, binInt, ofConst, ofConst1, loadA, TK.isAgg, asVar, unA, builtinA, lenOpA, lenA, ileb_cast, ileb_eq, ieqb_dec, indexAddrA, inB_dec, evPairs, storeA, AV.cellsOf, pairsOf, xI_nil, binBool, gcE, evOpt, xI_block, xI_loopH, xI_condM, xI_exitM, xI_skip, xI_blk, exitA, ty2, ty3, ty22, eK24_0_0]
  rw [cI_0 fn24 rfl md24]
  rw [fi24] at h1 ⊢
  simp [xI_seq, xI_region, xI_ret, regA, regOps, runOps, opStep, wantedA, opA, evo, evos, calleeA, lk, nif_eq, putE, paramsE, valS, val2, keepE, restrict, finA, resA, binA, binInt, ofConst, ofConst1, loadA, TK.isAgg, asVar, unA, builtinA, lenOpA, lenA, ileb_cast, ileb_eq, ieqb_dec, indexAddrA, inB_dec, evPairs, storeA, AV.cellsOf, pairsOf, xI_nil, binBool, gcE, evOpt, xI_block, xI_loopH, xI_condM, xI_exitM, xI_skip, xI_blk, exitA, ty2, ty3, ty22, eK24_0_0]
  exact h1

noncomputable def b25 : Code := Try.f25.body.getD .skip
noncomputable def B25_0 : Code := (bodyC (bodyC (sndC (fstC (sndC b25)))))
noncomputable def K25_0 : List It := .lp B25_0 :: .blk 0 :: .code (sndC (sndC b25)) :: []
theorem xl25_0 {fi : FI} {env : Env} {σ : St} : exI TT fi K25_0 env σ = exI TT fi (.code B25_0 :: K25_0) env σ := by unfold K25_0; exact xI_lp
noncomputable def R25_0_0 : List It := .code (sndC (sndC b25)) :: []
theorem eK25_0_0 : exitA 0 K25_0 = some R25_0_0 := rfl
theorem l25 (n k0 : Nat) (hs : n < 2000000) (hk0 : k0 < 2000000) (σ : St) : ∀ (m i : Nat), n = i + m →
    exI TT (FI.of Try.f25 (TT.an 25)) K25_0 [(0, .lst n (ints (iotaF k0 n))), (1, .int .i64 (k0 + i : Nat)), (5, .int .i64 i)] σ = some (.int .i64 (k0 + n : Nat), σ) := by
  intro m
  induction m with
  | zero =>
    intro i hn
    obtain rfl : n = i := by omega
    rw [fi25]
    rw [xl25_0]
    simp only [B25_0, b25, Try.f25, Option.getD, fstC, sndC, bodyC, thnC, elsC]
    simp [xI_seq, xI_region, xI_ret, regA, regOps, runOps, opStep, wantedA, opA, evo, evos, calleeA, lk, nif_eq, putE, paramsE, valS, val2, keepE, restrict, finA, resA, binA, binInt, ofConst, ofConst1, loadA, TK.isAgg, asVar, unA, builtinA, lenOpA, lenA, ileb_cast, ileb_eq, ieqb_dec, indexAddrA, inB_dec, evPairs, storeA, AV.cellsOf, pairsOf, xI_nil, binBool, gcE, evOpt, xI_block, xI_loopH, xI_condM, xI_exitM, xI_skip, xI_blk, exitA, ty2, ty3, ty22, eK25_0_0]
    simp only [R25_0_0, b25, Try.f25, Option.getD, fstC, sndC, bodyC, thnC, elsC]
    simp [xI_seq, xI_region, xI_ret, regA, regOps, runOps, opStep, wantedA, opA, evo, evos, calleeA, lk, nif_eq, putE, paramsE, valS, val2, keepE, restrict, finA, resA, binA, binInt, ofConst, ofConst1, loadA, TK.isAgg, asVar, unA, builtinA, lenOpA, lenA, ileb_cast, ileb_eq, ieqb_dec, indexAddrA, inB_dec, evPairs, storeA, AV.cellsOf, pairsOf, xI_nil, binBool, gcE, evOpt, xI_block, xI_loopH, xI_condM, xI_exitM, xI_skip, xI_blk, exitA, ty2, ty3, ty22, eK25_0_0]
  | succ m ih =>
    intro i hn
    have h1 := ih (i + 1) (by omega)
    have hg : (iotaF (k0 : Int) n)[i]? = some ((k0 : Int) + (i : Int)) := iotaF_get _ _ _ (by omega)
    have hlt : ¬ n ≤ i := by omega
    have hlt2 : i < n := by omega
    have hw := wrapS (n := i) (by omega)
    have hw2 : wrapA .i64 ((k0 : Int) + i + 1) = (k0 : Int) + i + 1 := wrapA_id (by omega) (by omega)
    rw [fi25] at h1 ⊢
    rw [xl25_0]
    simp only [B25_0, b25, Try.f25, Option.getD, fstC, sndC, bodyC, thnC, elsC]
    simp [xI_seq, xI_region, xI_ret, regA, regOps, runOps, opStep, wantedA, opA, evo, evos, calleeA, lk, nif_eq, putE, paramsE, valS, val2, keepE, restrict, finA, resA, binA, binInt, ofConst, ofConst1, loadA, TK.isAgg, asVar, unA, builtinA, lenOpA, lenA, ileb_cast, ileb_eq, ieqb_dec, indexAddrA, inB_dec, evPairs, storeA, AV.cellsOf, pairsOf, xI_nil, binBool, gcE, evOpt, xI_block, xI_loopH, xI_condM, xI_exitM, xI_skip, xI_blk, exitA, ty2, ty3, ty22, eK25_0_0, hw, hw2, hlt, hlt2, lst_read hg]
    rw [show ((k0 + (i + 1) : Nat) : Int) = (k0 : Int) + i + 1 by omega] at h1
    simpa using h1
theorem v25 (n k : Nat) (hs : n < 2000000) (hk : k < 2000000) : FnV TT 25 [.lst n (ints (iotaF k n)), .int .i64 k] (.int .i64 (k + n : Nat)) := by
  refine FnV.mk fn25 rfl md25 ⟨⟨[], 0⟩, ?_⟩ (fun _ => rfl) rfl
  rw [← l25 n k hs hk ⟨[], 0⟩ n 0 (by omega)]
  rw [fi25]
  simp [xI_seq, xI_region, xI_ret, regA, regOps, runOps, opStep, wantedA, opA, evo, evos, calleeA, lk, nif_eq, putE, paramsE, valS, val2, keepE, restrict, finA, resA, binA, binInt, ofConst, ofConst1, loadA, TK.isAgg, asVar, unA, builtinA, lenOpA, lenA, ileb_cast, ileb_eq, ieqb_dec, indexAddrA, inB_dec, evPairs, storeA, AV.cellsOf, pairsOf, xI_nil, binBool, gcE, evOpt, xI_block, xI_loopH, xI_condM, xI_exitM, xI_skip, xI_blk, exitA, ty2, ty3, ty22, eK25_0_0]
  rfl
theorem v25n (k : Nat) : FnV TT 25 [.nilS, .int .i64 k] (.int .i64 k) := by
  refine FnV.mk fn25 rfl md25 ⟨⟨[], 0⟩, ?_⟩ (fun _ => rfl) rfl
  have h1 : exI TT (FI.of Try.f25 (TT.an 25)) K25_0 [(0, .nilS), (1, .int .i64 k), (5, .int .i64 0)] ⟨[], 0⟩ = some (.int .i64 k, ⟨[], 0⟩) := by
    rw [fi25]
    rw [xl25_0]
    simp only [B25_0, b25, Try.f25, Option.getD, fstC, sndC, bodyC, thnC, elsC]
    simp [xI_seq, xI_region, xI_ret, regA, regOps, runOps, opStep, wantedA, opA, evo, evos, calleeA, lk, nif_eq, putE, paramsE, valS, val2, keepE, restrict, finA, resA, binA, binInt, ofConst, ofConst1, loadA, TK.isAgg, asVar, unA, builtinA, lenOpA, lenA, ileb_cast, ileb_eq, ieqb_dec, indexAddrA, inB_dec, evPairs, storeA, AV.cellsOf, pairsOf, xI_nil, binBool, gcE, evOpt, xI_block, xI_loopH, xI_condM, xI_exitM, xI_skip, xI_blk, exitA, ty2, ty3, ty22, eK25_0_0]
    simp only [R25_0_0, b25, Try.f25, Option.getD, fstC, sndC, bodyC, thnC, elsC]
    simp [xI_seq, xI_region, xI_ret, regA, regOps, runOps, opStep, wantedA, opA, evo, evos, calleeA, lk, nif_eq, putE, paramsE, valS, val2, keepE, restrict, finA, resA, binA, binInt, ofConst, ofConst1, loadA, TK.isAgg, asVar, unA, builtinA, lenOpA, lenA, ileb_cast, ileb_eq, ieqb_dec, indexAddrA, inB_dec, evPairs, storeA, AV.cellsOf, pairsOf, xI_nil, binBool, gcE, evOpt, xI_block, xI_loopH, xI_condM, xI_exitM, xI_skip, xI_blk, exitA, ty2, ty3, ty22, eK25_0_0]
  rw [fi25] at h1 ⊢
  simp [xI_seq, xI_region, xI_ret, regA, regOps, runOps, opStep, wantedA, opA, evo, evos, calleeA, lk, nif_eq, putE, paramsE, valS, val2, keepE, restrict, finA, resA, binA, binInt, ofConst, ofConst1, loadA, TK.isAgg, asVar, unA, builtinA, lenOpA, lenA, ileb_cast, ileb_eq, ieqb_dec, indexAddrA, inB_dec, evPairs, storeA, AV.cellsOf, pairsOf, xI_nil, binBool, gcE, evOpt, xI_block, xI_loopH, xI_condM, xI_exitM, xI_skip, xI_blk, exitA, ty2, ty3, ty22, eK25_0_0]
  exact h1

/-- Two elements exchanged. -/
def swp (l : List Int) (i j : Nat) : List Int := (l.set i (l.getD j 0)).set j (l.getD i 0)
theorem swp_length (l : List Int) (i j : Nat) : (swp l i j).length = l.length := by simp [swp]
theorem getD_get {l : List Int} {i : Nat} (h : i < l.length) : l[i]? = some (l.getD i 0) := by simp [h]
theorem m96 (σ : St) (b n i j : Nat) (l : List Int) (hn : n = l.length) (hi : i < n) (hj : j < n) (hr : Row σ b l) :
    ∃ σ', callI TT 96 [.sl b 0 n n, .int .i64 i, .int .i64 j] σ = some (.tup [], σ') ∧ Row σ' b (swp l i j) ∧ But b σ σ' := by
  obtain ⟨σ1, s1, r1, n1, o1⟩ := store_row (i := i) (x := l.getD j 0) hr (by omega)
  obtain ⟨σ2, s2, r2, n2, o2⟩ := store_row (i := j) (x := l.getD i 0) r1 (by simp; omega)
  refine ⟨σ2, ?_, r2, n2.trans n1, fun c hc => (o2 c hc).trans (o1 c hc)⟩
  have g1 := hr.read (getD_get (l := l) (i := i) (by omega))
  have g2 := hr.read (getD_get (l := l) (i := j) (by omega))
  rw [cI_0 fn96 rfl md96, fi96]
  simp only [List.getD_eq_getElem?_getD] at s1 s2 g1 g2
  simp [xI_seq, xI_region, xI_ret, regA, regOps, runOps, opStep, wantedA, opA, evo, evos, calleeA, lk, nif_eq, putE, paramsE, valS, val2, keepE, restrict, finA, resA, binA, binInt, ofConst, ofConst1, loadA, TK.isAgg, asVar, unA, builtinA, lenOpA, lenA, ileb_cast, ileb_eq, ieqb_dec, indexAddrA, inB_dec, evPairs, storeA, AV.cellsOf, pairsOf, xI_nil, binBool, gcE, evOpt, xI_block, xI_loopH, xI_condM, xI_exitM, xI_skip, xI_blk, exitA, ty2, ty22, g1, g2, s1, s2, hi, hj]

end Go.Proofs.Ytaniaeefijgaiaa
