/- Contracts of the laws' helpers. Nothing is claimed here; no condition. -/
import Derived.Test.YthkdbkjkccogfaaDoorGa
namespace Go.Proofs.YthkdbkjkccogfaaDoor
open Go Go.Abs
set_option linter.unusedSimpArgs false
set_option linter.unusedVariables false
def inR (n lo hi : Int) : Bool := decide (lo ≤ n) && decide (n ≤ hi)
theorem bs1 (σ : St) (x : Int) : buildSliceA TT σ 24 1 [(0, .int .i64 x)] = some (.sl σ.n 0 1 1, σ.push ⟨[.int .i64 x], 1, false⟩) := build_one ty24 ty2
theorem bn0 (σ : St) : buildSliceA TT σ 24 0 [] = some (.sl σ.n 0 0 0, σ.push ⟨ints [], 1, false⟩) := build_nil ty24 ty2
theorem mkI (σ : St) (n : Nat) (hn : n ≤ 17592186044416) : makeSliceA TT σ 24 (.int .i64 n) (.int .i64 n) = some (.sl σ.n 0 n n, σ.push ⟨ints (List.replicate n 0), 1, false⟩) := make_ints ty24 ty2 hn
def iotaF (k : Int) : Nat → List Int
  | 0 => []
  | m + 1 => k :: iotaF (k + 1) m
theorem iotaF_get : ∀ (m : Nat) (k : Int) (i : Nat), i < m → (iotaF k m)[i]? = some (k + (i : Int))
  | 0, _, _, h => by omega
  | m + 1, k, 0, _ => by simp [iotaF]
  | m + 1, k, i + 1, h => by simp only [iotaF, List.getElem?_cons_succ]; rw [iotaF_get m (k + 1) i (by omega)]; congr 1; omega
theorem iotaF_length : ∀ (m : Nat) (k : Int), (iotaF k m).length = m
  | 0, _ => rfl
  | m + 1, k => by simp [iotaF, iotaF_length m]

theorem c69 (n lo hi : Int) (σ : St) : callI TT 69 [.int .i64 n, .int .i64 lo, .int .i64 hi] σ = some (.bool (inR n lo hi), σ) := by
  refine (FnV.mk (args' := [.int .i64 n, .int .i64 lo, .int .i64 hi]) fn69 rfl md69 ⟨⟨[], 0⟩, ?_⟩ (fun _ => rfl) rfl) σ _ rfl
  rw [fi69]
  by_cases h1 : lo ≤ n <;> simp [xI_seq, xI_region, xI_ret, regA, regOps, runOps, opStep, wantedA, opA, evo, evos, calleeA, lk, nif_eq, putE, paramsE, valS, val2, keepE, restrict, finA, resA, binA, binInt, ofConst, ofConst1, loadA, TK.isAgg, asVar, unA, builtinA, lenOpA, lenA, ileb_cast, ileb_eq, ieqb_dec, indexAddrA, inB_dec, evPairs, storeA, AV.cellsOf, pairsOf, xI_nil, binBool, gcE, evOpt, tagZ, inR, h1]

theorem c110 (n lo hi : Int) (σ : St) : callI TT 110 [.int .i64 n, .int .i64 lo, .int .i64 hi] σ = some (.bool (inR n lo hi), σ) := by
  refine (FnV.mk (args' := [.int .i64 n, .int .i64 lo, .int .i64 hi]) fn110 rfl md110 ⟨⟨[], 0⟩, ?_⟩ (fun _ => rfl) rfl) σ _ rfl
  rw [fi110]
  by_cases h1 : lo ≤ n <;> simp [xI_seq, xI_region, xI_ret, regA, regOps, runOps, opStep, wantedA, opA, evo, evos, calleeA, lk, nif_eq, putE, paramsE, valS, val2, keepE, restrict, finA, resA, binA, binInt, ofConst, ofConst1, loadA, TK.isAgg, asVar, unA, builtinA, lenOpA, lenA, ileb_cast, ileb_eq, ieqb_dec, indexAddrA, inB_dec, evPairs, storeA, AV.cellsOf, pairsOf, xI_nil, binBool, gcE, evOpt, tagZ, inR, h1]

theorem v93 (l : List Int) (n : Nat) : FnV TT 93 [.lst n (ints l)] (.int .i64 n) := by
  refine FnV.mk fn93 rfl md93 ⟨⟨[], 0⟩, ?_⟩ (fun _ => rfl) rfl
  rw [fi93]
  simp [xI_seq, xI_region, xI_ret, regA, regOps, runOps, opStep, wantedA, opA, evo, evos, calleeA, lk, nif_eq, putE, paramsE, valS, val2, keepE, restrict, finA, resA, binA, binInt, ofConst, ofConst1, loadA, TK.isAgg, asVar, unA, builtinA, lenOpA, lenA, ileb_cast, ileb_eq, ieqb_dec, indexAddrA, inB_dec, evPairs, storeA, AV.cellsOf, pairsOf, xI_nil, binBool, gcE, evOpt, tagZ, ty2, ty24]
theorem v93n : FnV TT 93 [.nilS] (.int .i64 0) := by
  refine FnV.mk fn93 rfl md93 ⟨⟨[], 0⟩, ?_⟩ (fun _ => rfl) rfl
  rw [fi93]
  simp [xI_seq, xI_region, xI_ret, regA, regOps, runOps, opStep, wantedA, opA, evo, evos, calleeA, lk, nif_eq, putE, paramsE, valS, val2, keepE, restrict, finA, resA, binA, binInt, ofConst, ofConst1, loadA, TK.isAgg, asVar, unA, builtinA, lenOpA, lenA, ileb_cast, ileb_eq, ieqb_dec, indexAddrA, inB_dec, evPairs, storeA, AV.cellsOf, pairsOf, xI_nil, binBool, gcE, evOpt, tagZ, ty2, ty24]

noncomputable def b77 : Code := Tryd.f77.body.getD .skip
noncomputable def B77_0 : Code := (bodyC (bodyC (sndC (fstC (sndC (sndC b77))))))
noncomputable def K77_0 : List It := .lp B77_0 :: .blk 0 :: .code (sndC (sndC (sndC b77))) :: []
theorem xl77_0 {fi : FI} {env : Env} {σ : St} : exI TT fi K77_0 env σ = exI TT fi (.code B77_0 :: K77_0) env σ := by unfold K77_0; exact xI_lp
noncomputable def R77_0_0 : List It := .code (sndC (sndC (sndC b77))) :: []
theorem eK77_0_0 : exitA 0 K77_0 = some R77_0_0 := rfl
theorem l77 (l : List Int) (len : Nat) (hlen : len = l.length) (hs : len < 1000000000000) : ∀ (suf pre : List Int) (σ : St) (b : Nat) (z : List Int), l = pre ++ suf → z.length = suf.length → Row σ b (pre ++ z) →
    ∃ σ', exI TT (FI.of Tryd.f77 (TT.an 77)) K77_0 [(0, .lst len (ints l)), (3, .sl b 0 len len), (4, .int .i64 pre.length)] σ = some (.sl b 0 len len, σ') ∧ Row σ' b l := by
  intro suf
  induction suf with
  | nil =>
    intro pre σ b z hl hz hr
    have hz : z = [] := by simpa using hz
    subst hz
    have hl : l = pre := by simpa using hl
    subst hl
    refine ⟨σ, ?_, by simpa using hr⟩
    subst hlen
    rw [fi77]
    rw [xl77_0]
    simp only [B77_0, b77, Tryd.f77, Option.getD, fstC, sndC, bodyC, thnC, elsC]
    simp [xI_seq, xI_region, xI_ret, regA, regOps, runOps, opStep, wantedA, opA, evo, evos, calleeA, lk, nif_eq, putE, paramsE, valS, val2, keepE, restrict, finA, resA, binA, binInt, ofConst, ofConst1, loadA, TK.isAgg, asVar, unA, builtinA, lenOpA, lenA, ileb_cast, ileb_eq, ieqb_dec, indexAddrA, inB_dec, evPairs, storeA, AV.cellsOf, pairsOf, xI_nil, binBool, gcE, evOpt, tagZ, xI_block, xI_loopH, xI_condM, xI_exitM, xI_skip, xI_blk, exitA, ty2, ty3, ty24, eK77_0_0]
    simp only [R77_0_0, b77, Tryd.f77, Option.getD, fstC, sndC, bodyC, thnC, elsC]
    simp [xI_seq, xI_region, xI_ret, regA, regOps, runOps, opStep, wantedA, opA, evo, evos, calleeA, lk, nif_eq, putE, paramsE, valS, val2, keepE, restrict, finA, resA, binA, binInt, ofConst, ofConst1, loadA, TK.isAgg, asVar, unA, builtinA, lenOpA, lenA, ileb_cast, ileb_eq, ieqb_dec, indexAddrA, inB_dec, evPairs, storeA, AV.cellsOf, pairsOf, xI_nil, binBool, gcE, evOpt, tagZ, xI_block, xI_loopH, xI_condM, xI_exitM, xI_skip, xI_blk, exitA, ty2, ty3, ty24, eK77_0_0]
  | cons x suf ih =>
    intro pre σ b z hl hz hr
    obtain ⟨y, z, rfl⟩ : ∃ y z', z = y :: z' := by cases z with | nil => simp at hz | cons y z => exact ⟨y, z, rfl⟩
    have hg : l[pre.length]? = some x := by simp [hl]
    have hll : len = pre.length + (suf.length + 1) := by rw [hlen, hl]; simp
    obtain ⟨σ1, hst, hr1, hn1, _⟩ := store_row (i := pre.length) (x := x) hr (by simp)
    rw [set_app] at hr1
    obtain ⟨σ', h1, h2⟩ := ih (pre ++ [x]) σ1 b z (by simp [hl]) (by simpa using hz) (by simpa using hr1)
    refine ⟨σ', ?_, h2⟩
    have hlt : ¬ len ≤ pre.length := by omega
    have hlt2 : pre.length < len := by omega
    have hw := wrapS (n := pre.length) (by omega)
    rw [fi77] at h1 ⊢
    rw [xl77_0]
    simp only [B77_0, b77, Tryd.f77, Option.getD, fstC, sndC, bodyC, thnC, elsC]
    simp [xI_seq, xI_region, xI_ret, regA, regOps, runOps, opStep, wantedA, opA, evo, evos, calleeA, lk, nif_eq, putE, paramsE, valS, val2, keepE, restrict, finA, resA, binA, binInt, ofConst, ofConst1, loadA, TK.isAgg, asVar, unA, builtinA, lenOpA, lenA, ileb_cast, ileb_eq, ieqb_dec, indexAddrA, inB_dec, evPairs, storeA, AV.cellsOf, pairsOf, xI_nil, binBool, gcE, evOpt, tagZ, xI_block, xI_loopH, xI_condM, xI_exitM, xI_skip, xI_blk, exitA, ty2, ty3, ty24, eK77_0_0, hw, hlt, hlt2, lst_read hg, hst]
    simpa using h1
theorem s77 (l : List Int) (len : Nat) (hlen : len = l.length) (hs : len < 1000000000000) : FnS TT 77 [.lst len (ints l)] l := by
  obtain ⟨σ', h1, o, h2, _⟩ := l77 l len hlen hs l [] ((⟨[], 0⟩ : St).push ⟨ints (List.replicate len 0), 1, false⟩) 0 (List.replicate len 0) rfl (by simp [hlen]) Row.push
  refine FnS.mk fn77 rfl md77 ⟨σ', 0, o, ?_, h2⟩
  rw [← hlen, ← h1]
  have hm := mkI ⟨[], 0⟩ len (by omega)
  rw [fi77]
  simp [xI_seq, xI_region, xI_ret, regA, regOps, runOps, opStep, wantedA, opA, evo, evos, calleeA, lk, nif_eq, putE, paramsE, valS, val2, keepE, restrict, finA, resA, binA, binInt, ofConst, ofConst1, loadA, TK.isAgg, asVar, unA, builtinA, lenOpA, lenA, ileb_cast, ileb_eq, ieqb_dec, indexAddrA, inB_dec, evPairs, storeA, AV.cellsOf, pairsOf, xI_nil, binBool, gcE, evOpt, tagZ, xI_block, xI_loopH, xI_condM, xI_exitM, xI_skip, xI_blk, exitA, ty2, ty3, ty24, eK77_0_0, hm]
  rfl
theorem l77n (σ : St) (b : Nat) : exI TT (FI.of Tryd.f77 (TT.an 77)) K77_0 [(0, .nilS), (3, .sl b 0 0 0), (4, .int .i64 0)] σ = some (.sl b 0 0 0, σ) := by
  rw [fi77]
  rw [xl77_0]
  simp only [B77_0, b77, Tryd.f77, Option.getD, fstC, sndC, bodyC, thnC, elsC]
  simp [xI_seq, xI_region, xI_ret, regA, regOps, runOps, opStep, wantedA, opA, evo, evos, calleeA, lk, nif_eq, putE, paramsE, valS, val2, keepE, restrict, finA, resA, binA, binInt, ofConst, ofConst1, loadA, TK.isAgg, asVar, unA, builtinA, lenOpA, lenA, ileb_cast, ileb_eq, ieqb_dec, indexAddrA, inB_dec, evPairs, storeA, AV.cellsOf, pairsOf, xI_nil, binBool, gcE, evOpt, tagZ, xI_block, xI_loopH, xI_condM, xI_exitM, xI_skip, xI_blk, exitA, ty2, ty3, ty24, eK77_0_0]
  simp only [R77_0_0, b77, Tryd.f77, Option.getD, fstC, sndC, bodyC, thnC, elsC]
  simp [xI_seq, xI_region, xI_ret, regA, regOps, runOps, opStep, wantedA, opA, evo, evos, calleeA, lk, nif_eq, putE, paramsE, valS, val2, keepE, restrict, finA, resA, binA, binInt, ofConst, ofConst1, loadA, TK.isAgg, asVar, unA, builtinA, lenOpA, lenA, ileb_cast, ileb_eq, ieqb_dec, indexAddrA, inB_dec, evPairs, storeA, AV.cellsOf, pairsOf, xI_nil, binBool, gcE, evOpt, tagZ, xI_block, xI_loopH, xI_condM, xI_exitM, xI_skip, xI_blk, exitA, ty2, ty3, ty24, eK77_0_0]
theorem s77n : FnS TT 77 [.nilS] [] := by
  refine FnS.mk fn77 rfl md77 ⟨(⟨[], 0⟩ : St).push ⟨ints [], 1, false⟩, 0, false, ?_, rfl⟩
  have hm := mkI ⟨[], 0⟩ 0 (by omega)
  have h1 := l77n ((⟨[], 0⟩ : St).push ⟨ints [], 1, false⟩) 0
  simp only [Int.natCast_zero, show ((0 : Nat) : Int) = 0 from rfl] at hm
  rw [fi77] at h1 ⊢
  simp [xI_seq, xI_region, xI_ret, regA, regOps, runOps, opStep, wantedA, opA, evo, evos, calleeA, lk, nif_eq, putE, paramsE, valS, val2, keepE, restrict, finA, resA, binA, binInt, ofConst, ofConst1, loadA, TK.isAgg, asVar, unA, builtinA, lenOpA, lenA, ileb_cast, ileb_eq, ieqb_dec, indexAddrA, inB_dec, evPairs, storeA, AV.cellsOf, pairsOf, xI_nil, binBool, gcE, evOpt, tagZ, xI_block, xI_loopH, xI_condM, xI_exitM, xI_skip, xI_blk, exitA, ty2, ty3, ty24, eK77_0_0, hm]
  exact h1

noncomputable def b15 : Code := Tryd.f15.body.getD .skip
noncomputable def B15_0 : Code := (bodyC (bodyC (sndC (fstC (sndC (sndC b15))))))
noncomputable def K15_0 : List It := .lp B15_0 :: .blk 0 :: .code (sndC (sndC (sndC b15))) :: []
theorem xl15_0 {fi : FI} {env : Env} {σ : St} : exI TT fi K15_0 env σ = exI TT fi (.code B15_0 :: K15_0) env σ := by unfold K15_0; exact xI_lp
noncomputable def R15_0_0 : List It := .code (sndC (sndC (sndC b15))) :: []
theorem eK15_0_0 : exitA 0 K15_0 = some R15_0_0 := rfl
theorem l15 (a b : List Int) (len : Nat) (hlen : len = a.length) (hlen2 : len = b.length) (hs : len < 1000000000000) (σ : St) : ∀ (suf suf2 pre pre2 : List Int), a = pre ++ suf → b = pre2 ++ suf2 → pre.length = pre2.length →
    exI TT (FI.of Tryd.f15 (TT.an 15)) K15_0 [(0, .lst len (ints a)), (1, .lst len (ints b)), (5, .int .i64 pre.length)] σ = some (.bool (decide (suf = suf2)), σ) := by
  intro suf
  induction suf with
  | nil =>
    intro suf2 pre pre2 ha hb hp
    have h0 : suf2 = [] := by
      have := congrArg List.length ha; have := congrArg List.length hb; simp at *; cases suf2 with | nil => rfl | cons y z => simp at *; omega
    subst h0
    have hl : len = pre.length := by rw [hlen, ha]; simp
    subst hl
    rw [fi15]
    rw [xl15_0]
    simp only [B15_0, b15, Tryd.f15, Option.getD, fstC, sndC, bodyC, thnC, elsC]
    simp [xI_seq, xI_region, xI_ret, regA, regOps, runOps, opStep, wantedA, opA, evo, evos, calleeA, lk, nif_eq, putE, paramsE, valS, val2, keepE, restrict, finA, resA, binA, binInt, ofConst, ofConst1, loadA, TK.isAgg, asVar, unA, builtinA, lenOpA, lenA, ileb_cast, ileb_eq, ieqb_dec, indexAddrA, inB_dec, evPairs, storeA, AV.cellsOf, pairsOf, xI_nil, binBool, gcE, evOpt, tagZ, xI_block, xI_loopH, xI_condM, xI_exitM, xI_skip, xI_blk, exitA, ty2, ty3, ty24, eK15_0_0]
    simp only [R15_0_0, b15, Tryd.f15, Option.getD, fstC, sndC, bodyC, thnC, elsC]
    simp [xI_seq, xI_region, xI_ret, regA, regOps, runOps, opStep, wantedA, opA, evo, evos, calleeA, lk, nif_eq, putE, paramsE, valS, val2, keepE, restrict, finA, resA, binA, binInt, ofConst, ofConst1, loadA, TK.isAgg, asVar, unA, builtinA, lenOpA, lenA, ileb_cast, ileb_eq, ieqb_dec, indexAddrA, inB_dec, evPairs, storeA, AV.cellsOf, pairsOf, xI_nil, binBool, gcE, evOpt, tagZ, xI_block, xI_loopH, xI_condM, xI_exitM, xI_skip, xI_blk, exitA, ty2, ty3, ty24, eK15_0_0]
  | cons x suf ih =>
    intro suf2 pre pre2 ha hb hp
    obtain ⟨y, suf2, rfl⟩ : ∃ y z', suf2 = y :: z' := by
      cases suf2 with
      | nil => have := congrArg List.length ha; have := congrArg List.length hb; simp at *; omega
      | cons y z => exact ⟨y, z, rfl⟩
    have hg : a[pre.length]? = some x := by simp [ha]
    have hg2 : b[pre.length]? = some y := by simp [hb, hp]
    have hll : len = pre.length + (suf.length + 1) := by rw [hlen, ha]; simp
    have h1 := ih suf2 (pre ++ [x]) (pre2 ++ [y]) (by simp [ha]) (by simp [hb]) (by simp [hp])
    have hlt : ¬ len ≤ pre.length := by omega
    have hlt2 : pre.length < len := by omega
    have hw := wrapS (n := pre.length) (by omega)
    by_cases hxy : x = y
    · subst hxy
      rw [fi15] at h1 ⊢
      rw [xl15_0]
      simp only [B15_0, b15, Tryd.f15, Option.getD, fstC, sndC, bodyC, thnC, elsC]
      simp [xI_seq, xI_region, xI_ret, regA, regOps, runOps, opStep, wantedA, opA, evo, evos, calleeA, lk, nif_eq, putE, paramsE, valS, val2, keepE, restrict, finA, resA, binA, binInt, ofConst, ofConst1, loadA, TK.isAgg, asVar, unA, builtinA, lenOpA, lenA, ileb_cast, ileb_eq, ieqb_dec, indexAddrA, inB_dec, evPairs, storeA, AV.cellsOf, pairsOf, xI_nil, binBool, gcE, evOpt, tagZ, xI_block, xI_loopH, xI_condM, xI_exitM, xI_skip, xI_blk, exitA, ty2, ty3, ty24, eK15_0_0, hw, hlt, hlt2, lst_read hg, lst_read hg2]
      simpa using h1
    · rw [fi15]
      rw [xl15_0]
      simp only [B15_0, b15, Tryd.f15, Option.getD, fstC, sndC, bodyC, thnC, elsC]
      simp [xI_seq, xI_region, xI_ret, regA, regOps, runOps, opStep, wantedA, opA, evo, evos, calleeA, lk, nif_eq, putE, paramsE, valS, val2, keepE, restrict, finA, resA, binA, binInt, ofConst, ofConst1, loadA, TK.isAgg, asVar, unA, builtinA, lenOpA, lenA, ileb_cast, ileb_eq, ieqb_dec, indexAddrA, inB_dec, evPairs, storeA, AV.cellsOf, pairsOf, xI_nil, binBool, gcE, evOpt, tagZ, xI_block, xI_loopH, xI_condM, xI_exitM, xI_skip, xI_blk, exitA, ty2, ty3, ty24, eK15_0_0, hw, hlt, hlt2, lst_read hg, lst_read hg2, hxy]
theorem v15 (a b : List Int) (n m : Nat) (hn : n = a.length) (hm : m = b.length) (hs : n < 1000000000000) : FnV TT 15 [.lst n (ints a), .lst m (ints b)] (.bool (decide (a = b))) := by
  refine FnV.mk fn15 rfl md15 ⟨⟨[], 0⟩, ?_⟩ (fun _ => rfl) rfl
  by_cases hnm : n = m
  · subst hnm
    have h1 := l15 a b n hn hm hs ⟨[], 0⟩ a b [] [] rfl rfl rfl
    rw [fi15] at h1 ⊢
    simp [xI_seq, xI_region, xI_ret, regA, regOps, runOps, opStep, wantedA, opA, evo, evos, calleeA, lk, nif_eq, putE, paramsE, valS, val2, keepE, restrict, finA, resA, binA, binInt, ofConst, ofConst1, loadA, TK.isAgg, asVar, unA, builtinA, lenOpA, lenA, ileb_cast, ileb_eq, ieqb_dec, indexAddrA, inB_dec, evPairs, storeA, AV.cellsOf, pairsOf, xI_nil, binBool, gcE, evOpt, tagZ, xI_block, xI_loopH, xI_condM, xI_exitM, xI_skip, xI_blk, exitA, ty2, ty3, ty24, eK15_0_0]
    exact h1
  · have hab : a ≠ b := fun e => hnm (by rw [hn, hm, e])
    have hnm' : ¬ (n : Int) = m := by omega
    rw [fi15]
    simp [xI_seq, xI_region, xI_ret, regA, regOps, runOps, opStep, wantedA, opA, evo, evos, calleeA, lk, nif_eq, putE, paramsE, valS, val2, keepE, restrict, finA, resA, binA, binInt, ofConst, ofConst1, loadA, TK.isAgg, asVar, unA, builtinA, lenOpA, lenA, ileb_cast, ileb_eq, ieqb_dec, indexAddrA, inB_dec, evPairs, storeA, AV.cellsOf, pairsOf, xI_nil, binBool, gcE, evOpt, tagZ, xI_block, xI_loopH, xI_condM, xI_exitM, xI_skip, xI_blk, exitA, ty2, ty3, ty24, eK15_0_0, hnm, hnm', hab]
theorem v15n : FnV TT 15 [.nilS, .nilS] (.bool true) := by
  refine FnV.mk fn15 rfl md15 ⟨⟨[], 0⟩, ?_⟩ (fun _ => rfl) rfl
  have h1 : exI TT (FI.of Tryd.f15 (TT.an 15)) K15_0 [(0, .nilS), (1, .nilS), (5, .int .i64 0)] ⟨[], 0⟩ = some (.bool true, ⟨[], 0⟩) := by
    rw [fi15]
    rw [xl15_0]
    simp only [B15_0, b15, Tryd.f15, Option.getD, fstC, sndC, bodyC, thnC, elsC]
    simp [xI_seq, xI_region, xI_ret, regA, regOps, runOps, opStep, wantedA, opA, evo, evos, calleeA, lk, nif_eq, putE, paramsE, valS, val2, keepE, restrict, finA, resA, binA, binInt, ofConst, ofConst1, loadA, TK.isAgg, asVar, unA, builtinA, lenOpA, lenA, ileb_cast, ileb_eq, ieqb_dec, indexAddrA, inB_dec, evPairs, storeA, AV.cellsOf, pairsOf, xI_nil, binBool, gcE, evOpt, tagZ, xI_block, xI_loopH, xI_condM, xI_exitM, xI_skip, xI_blk, exitA, ty2, ty3, ty24, eK15_0_0]
    simp only [R15_0_0, b15, Tryd.f15, Option.getD, fstC, sndC, bodyC, thnC, elsC]
    simp [xI_seq, xI_region, xI_ret, regA, regOps, runOps, opStep, wantedA, opA, evo, evos, calleeA, lk, nif_eq, putE, paramsE, valS, val2, keepE, restrict, finA, resA, binA, binInt, ofConst, ofConst1, loadA, TK.isAgg, asVar, unA, builtinA, lenOpA, lenA, ileb_cast, ileb_eq, ieqb_dec, indexAddrA, inB_dec, evPairs, storeA, AV.cellsOf, pairsOf, xI_nil, binBool, gcE, evOpt, tagZ, xI_block, xI_loopH, xI_condM, xI_exitM, xI_skip, xI_blk, exitA, ty2, ty3, ty24, eK15_0_0]
  rw [fi15] at h1 ⊢
  simp [xI_seq, xI_region, xI_ret, regA, regOps, runOps, opStep, wantedA, opA, evo, evos, calleeA, lk, nif_eq, putE, paramsE, valS, val2, keepE, restrict, finA, resA, binA, binInt, ofConst, ofConst1, loadA, TK.isAgg, asVar, unA, builtinA, lenOpA, lenA, ileb_cast, ileb_eq, ieqb_dec, indexAddrA, inB_dec, evPairs, storeA, AV.cellsOf, pairsOf, xI_nil, binBool, gcE, evOpt, tagZ, xI_block, xI_loopH, xI_condM, xI_exitM, xI_skip, xI_blk, exitA, ty2, ty3, ty24, eK15_0_0]
  exact h1

noncomputable def b16 : Code := Tryd.f16.body.getD .skip
noncomputable def B16_0 : Code := (bodyC (bodyC (sndC (fstC (sndC b16)))))
noncomputable def K16_0 : List It := .lp B16_0 :: .blk 0 :: .code (sndC (sndC b16)) :: []
theorem xl16_0 {fi : FI} {env : Env} {σ : St} : exI TT fi K16_0 env σ = exI TT fi (.code B16_0 :: K16_0) env σ := by unfold K16_0; exact xI_lp
noncomputable def R16_0_0 : List It := .code (sndC (sndC b16)) :: []
theorem eK16_0_0 : exitA 0 K16_0 = some R16_0_0 := rfl
theorem l16 (b n : Nat) (hs : n < 1000000000000) : ∀ (suf pre : List Int) (k : Nat) (σ : St), n = pre.length + suf.length → k + suf.length < 1000000000000 → Row σ b (pre ++ suf) →
    ∃ σ', exI TT (FI.of Tryd.f16 (TT.an 16)) K16_0 [(0, .sl b 0 n n), (1, .int .i64 k), (5, .int .i64 pre.length)] σ = some (.int .i64 (k + suf.length : Nat), σ') ∧ Row σ' b (pre ++ iotaF k suf.length) ∧ But b σ σ' := by
  intro suf
  induction suf with
  | nil =>
    intro pre k σ hn hk hr
    have hn : n = pre.length := by simpa using hn
    subst hn
    refine ⟨σ, ?_, by simpa [iotaF] using hr, rfl, fun _ _ => rfl⟩
    rw [fi16]
    rw [xl16_0]
    simp only [B16_0, b16, Tryd.f16, Option.getD, fstC, sndC, bodyC, thnC, elsC]
    simp [xI_seq, xI_region, xI_ret, regA, regOps, runOps, opStep, wantedA, opA, evo, evos, calleeA, lk, nif_eq, putE, paramsE, valS, val2, keepE, restrict, finA, resA, binA, binInt, ofConst, ofConst1, loadA, TK.isAgg, asVar, unA, builtinA, lenOpA, lenA, ileb_cast, ileb_eq, ieqb_dec, indexAddrA, inB_dec, evPairs, storeA, AV.cellsOf, pairsOf, xI_nil, binBool, gcE, evOpt, tagZ, xI_block, xI_loopH, xI_condM, xI_exitM, xI_skip, xI_blk, exitA, ty2, ty3, ty24, eK16_0_0]
    simp only [R16_0_0, b16, Tryd.f16, Option.getD, fstC, sndC, bodyC, thnC, elsC]
    simp [xI_seq, xI_region, xI_ret, regA, regOps, runOps, opStep, wantedA, opA, evo, evos, calleeA, lk, nif_eq, putE, paramsE, valS, val2, keepE, restrict, finA, resA, binA, binInt, ofConst, ofConst1, loadA, TK.isAgg, asVar, unA, builtinA, lenOpA, lenA, ileb_cast, ileb_eq, ieqb_dec, indexAddrA, inB_dec, evPairs, storeA, AV.cellsOf, pairsOf, xI_nil, binBool, gcE, evOpt, tagZ, xI_block, xI_loopH, xI_condM, xI_exitM, xI_skip, xI_blk, exitA, ty2, ty3, ty24, eK16_0_0]
  | cons x suf ih =>
    intro pre k σ hn hk hr
    have hk' : k + (suf.length + 1) < 1000000000000 := by simpa using hk
    have hn : n = pre.length + (suf.length + 1) := by simpa using hn
    obtain ⟨σ1, hst, hr1, hn1, ho1⟩ := store_row (i := pre.length) (x := k) hr (by simp)
    rw [set_app] at hr1
    obtain ⟨σ', h1, h2, h3, h4⟩ := ih (pre ++ [(k : Int)]) (k + 1) σ1 (by simp; omega) (by simp at hk; omega) (by simpa using hr1)
    refine ⟨σ', ?_, by simpa [iotaF] using h2, h3.trans hn1, fun c hc => (h4 c hc).trans (ho1 c hc)⟩
    have hlt : ¬ n ≤ pre.length := by omega
    have hlt2 : pre.length < n := by omega
    have hw := wrapS (n := pre.length) (by omega)
    have hw2 := wrapS (n := k) (by omega)
    rw [fi16] at h1 ⊢
    rw [xl16_0]
    simp only [B16_0, b16, Tryd.f16, Option.getD, fstC, sndC, bodyC, thnC, elsC]
    simp [xI_seq, xI_region, xI_ret, regA, regOps, runOps, opStep, wantedA, opA, evo, evos, calleeA, lk, nif_eq, putE, paramsE, valS, val2, keepE, restrict, finA, resA, binA, binInt, ofConst, ofConst1, loadA, TK.isAgg, asVar, unA, builtinA, lenOpA, lenA, ileb_cast, ileb_eq, ieqb_dec, indexAddrA, inB_dec, evPairs, storeA, AV.cellsOf, pairsOf, xI_nil, binBool, gcE, evOpt, tagZ, xI_block, xI_loopH, xI_condM, xI_exitM, xI_skip, xI_blk, exitA, ty2, ty3, ty24, eK16_0_0, hw, hw2, hlt, hlt2, hst]
    rw [show ((k : Int) + ((suf.length : Int) + 1)) = (k : Int) + 1 + suf.length by omega]
    simpa using h1

theorem m16 (σ : St) (b n k : Nat) (l : List Int) (hn : n = l.length) (hs : n < 2000000) (hk : k < 2000000) (hr : Row σ b l) :
    ∃ σ', callI TT 16 [.sl b 0 n n, .int .i64 k] σ = some (.int .i64 (k + n : Nat), σ') ∧ Row σ' b (iotaF k n) ∧ But b σ σ' := by
  obtain ⟨σ', h1, h2, h3, h4⟩ := l16 b n (by omega) l [] k σ (by simp [hn]) (by omega) hr
  refine ⟨σ', ?_, by simpa [hn] using h2, h3, h4⟩
  rw [cI_0 fn16 rfl md16]
  rw [← hn] at h1
  rw [← h1, fi16]
  simp [xI_seq, xI_region, xI_ret, regA, regOps, runOps, opStep, wantedA, opA, evo, evos, calleeA, lk, nif_eq, putE, paramsE, valS, val2, keepE, restrict, finA, resA, binA, binInt, ofConst, ofConst1, loadA, TK.isAgg, asVar, unA, builtinA, lenOpA, lenA, ileb_cast, ileb_eq, ieqb_dec, indexAddrA, inB_dec, evPairs, storeA, AV.cellsOf, pairsOf, xI_nil, binBool, gcE, evOpt, tagZ, xI_block, xI_loopH, xI_condM, xI_exitM, xI_skip, xI_blk, exitA, ty2, ty3, ty24, eK16_0_0]
  rfl
theorem m16n (σ : St) (k : Nat) : callI TT 16 [.nilS, .int .i64 k] σ = some (.int .i64 k, σ) := by
  have h1 : exI TT (FI.of Tryd.f16 (TT.an 16)) K16_0 [(0, .nilS), (1, .int .i64 k), (5, .int .i64 0)] σ = some (.int .i64 k, σ) := by
    rw [fi16]
    rw [xl16_0]
    simp only [B16_0, b16, Tryd.f16, Option.getD, fstC, sndC, bodyC, thnC, elsC]
    simp [xI_seq, xI_region, xI_ret, regA, regOps, runOps, opStep, wantedA, opA, evo, evos, calleeA, lk, nif_eq, putE, paramsE, valS, val2, keepE, restrict, finA, resA, binA, binInt, ofConst, ofConst1, loadA, TK.isAgg, asVar, unA, builtinA, lenOpA, lenA, ileb_cast, ileb_eq, ieqb_dec, indexAddrA, inB_dec, evPairs, storeA, AV.cellsOf, pairsOf, xI_nil, binBool, gcE, evOpt, tagZ, xI_block, xI_loopH, xI_condM, xI_exitM, xI_skip, xI_blk, exitA, ty2, ty3, ty24, eK16_0_0]
    simp only [R16_0_0, b16, Tryd.f16, Option.getD, fstC, sndC, bodyC, thnC, elsC]
    simp [xI_seq, xI_region, xI_ret, regA, regOps, runOps, opStep, wantedA, opA, evo, evos, calleeA, lk, nif_eq, putE, paramsE, valS, val2, keepE, restrict, finA, resA, binA, binInt, ofConst, ofConst1, loadA, TK.isAgg, asVar, unA, builtinA, lenOpA, lenA, ileb_cast, ileb_eq, ieqb_dec, indexAddrA, inB_dec, evPairs, storeA, AV.cellsOf, pairsOf, xI_nil, binBool, gcE, evOpt, tagZ, xI_block, xI_loopH, xI_condM, xI_exitM, xI_skip, xI_blk, exitA, ty2, ty3, ty24, eK16_0_0]
  rw [cI_0 fn16 rfl md16]
  rw [fi16] at h1 ⊢
  simp [xI_seq, xI_region, xI_ret, regA, regOps, runOps, opStep, wantedA, opA, evo, evos, calleeA, lk, nif_eq, putE, paramsE, valS, val2, keepE, restrict, finA, resA, binA, binInt, ofConst, ofConst1, loadA, TK.isAgg, asVar, unA, builtinA, lenOpA, lenA, ileb_cast, ileb_eq, ieqb_dec, indexAddrA, inB_dec, evPairs, storeA, AV.cellsOf, pairsOf, xI_nil, binBool, gcE, evOpt, tagZ, xI_block, xI_loopH, xI_condM, xI_exitM, xI_skip, xI_blk, exitA, ty2, ty3, ty24, eK16_0_0]
  exact h1

noncomputable def b17 : Code := Tryd.f17.body.getD .skip
noncomputable def B17_0 : Code := (bodyC (bodyC (sndC (fstC (sndC b17)))))
noncomputable def K17_0 : List It := .lp B17_0 :: .blk 0 :: .code (sndC (sndC b17)) :: []
theorem xl17_0 {fi : FI} {env : Env} {σ : St} : exI TT fi K17_0 env σ = exI TT fi (.code B17_0 :: K17_0) env σ := by unfold K17_0; exact xI_lp
noncomputable def R17_0_0 : List It := .code (sndC (sndC b17)) :: []
theorem eK17_0_0 : exitA 0 K17_0 = some R17_0_0 := rfl
theorem l17 (n k0 : Nat) (hs : n < 2000000) (hk0 : k0 < 2000000) (σ : St) : ∀ (m i : Nat), n = i + m →
    exI TT (FI.of Tryd.f17 (TT.an 17)) K17_0 [(0, .lst n (ints (iotaF k0 n))), (1, .int .i64 (k0 + i : Nat)), (5, .int .i64 i)] σ = some (.int .i64 (k0 + n : Nat), σ) := by
  intro m
  induction m with
  | zero =>
    intro i hn
    obtain rfl : n = i := by omega
    rw [fi17]
    rw [xl17_0]
    simp only [B17_0, b17, Tryd.f17, Option.getD, fstC, sndC, bodyC, thnC, elsC]
    simp [xI_seq, xI_region, xI_ret, regA, regOps, runOps, opStep, wantedA, opA, evo, evos, calleeA, lk, nif_eq, putE, paramsE, valS, val2, keepE, restrict, finA, resA, binA, binInt, ofConst, ofConst1, loadA, TK.isAgg, asVar, unA, builtinA, lenOpA, lenA, ileb_cast, ileb_eq, ieqb_dec, indexAddrA, inB_dec, evPairs, storeA, AV.cellsOf, pairsOf, xI_nil, binBool, gcE, evOpt, tagZ, xI_block, xI_loopH, xI_condM, xI_exitM, xI_skip, xI_blk, exitA, ty2, ty3, ty24, eK17_0_0]
    simp only [R17_0_0, b17, Tryd.f17, Option.getD, fstC, sndC, bodyC, thnC, elsC]
    simp [xI_seq, xI_region, xI_ret, regA, regOps, runOps, opStep, wantedA, opA, evo, evos, calleeA, lk, nif_eq, putE, paramsE, valS, val2, keepE, restrict, finA, resA, binA, binInt, ofConst, ofConst1, loadA, TK.isAgg, asVar, unA, builtinA, lenOpA, lenA, ileb_cast, ileb_eq, ieqb_dec, indexAddrA, inB_dec, evPairs, storeA, AV.cellsOf, pairsOf, xI_nil, binBool, gcE, evOpt, tagZ, xI_block, xI_loopH, xI_condM, xI_exitM, xI_skip, xI_blk, exitA, ty2, ty3, ty24, eK17_0_0]
  | succ m ih =>
    intro i hn
    have h1 := ih (i + 1) (by omega)
    have hg : (iotaF (k0 : Int) n)[i]? = some ((k0 : Int) + (i : Int)) := iotaF_get _ _ _ (by omega)
    have hlt : ¬ n ≤ i := by omega
    have hlt2 : i < n := by omega
    have hw := wrapS (n := i) (by omega)
    have hw2 : wrapA .i64 ((k0 : Int) + i + 1) = (k0 : Int) + i + 1 := wrapA_id (by omega) (by omega)
    rw [fi17] at h1 ⊢
    rw [xl17_0]
    simp only [B17_0, b17, Tryd.f17, Option.getD, fstC, sndC, bodyC, thnC, elsC]
    simp [xI_seq, xI_region, xI_ret, regA, regOps, runOps, opStep, wantedA, opA, evo, evos, calleeA, lk, nif_eq, putE, paramsE, valS, val2, keepE, restrict, finA, resA, binA, binInt, ofConst, ofConst1, loadA, TK.isAgg, asVar, unA, builtinA, lenOpA, lenA, ileb_cast, ileb_eq, ieqb_dec, indexAddrA, inB_dec, evPairs, storeA, AV.cellsOf, pairsOf, xI_nil, binBool, gcE, evOpt, tagZ, xI_block, xI_loopH, xI_condM, xI_exitM, xI_skip, xI_blk, exitA, ty2, ty3, ty24, eK17_0_0, hw, hw2, hlt, hlt2, lst_read hg]
    rw [show ((k0 + (i + 1) : Nat) : Int) = (k0 : Int) + i + 1 by omega] at h1
    simpa using h1
theorem v17 (n k : Nat) (hs : n < 2000000) (hk : k < 2000000) : FnV TT 17 [.lst n (ints (iotaF k n)), .int .i64 k] (.int .i64 (k + n : Nat)) := by
  refine FnV.mk fn17 rfl md17 ⟨⟨[], 0⟩, ?_⟩ (fun _ => rfl) rfl
  rw [← l17 n k hs hk ⟨[], 0⟩ n 0 (by omega)]
  rw [fi17]
  simp [xI_seq, xI_region, xI_ret, regA, regOps, runOps, opStep, wantedA, opA, evo, evos, calleeA, lk, nif_eq, putE, paramsE, valS, val2, keepE, restrict, finA, resA, binA, binInt, ofConst, ofConst1, loadA, TK.isAgg, asVar, unA, builtinA, lenOpA, lenA, ileb_cast, ileb_eq, ieqb_dec, indexAddrA, inB_dec, evPairs, storeA, AV.cellsOf, pairsOf, xI_nil, binBool, gcE, evOpt, tagZ, xI_block, xI_loopH, xI_condM, xI_exitM, xI_skip, xI_blk, exitA, ty2, ty3, ty24, eK17_0_0]
  rfl
theorem v17n (k : Nat) : FnV TT 17 [.nilS, .int .i64 k] (.int .i64 k) := by
  refine FnV.mk fn17 rfl md17 ⟨⟨[], 0⟩, ?_⟩ (fun _ => rfl) rfl
  have h1 : exI TT (FI.of Tryd.f17 (TT.an 17)) K17_0 [(0, .nilS), (1, .int .i64 k), (5, .int .i64 0)] ⟨[], 0⟩ = some (.int .i64 k, ⟨[], 0⟩) := by
    rw [fi17]
    rw [xl17_0]
    simp only [B17_0, b17, Tryd.f17, Option.getD, fstC, sndC, bodyC, thnC, elsC]
    simp [xI_seq, xI_region, xI_ret, regA, regOps, runOps, opStep, wantedA, opA, evo, evos, calleeA, lk, nif_eq, putE, paramsE, valS, val2, keepE, restrict, finA, resA, binA, binInt, ofConst, ofConst1, loadA, TK.isAgg, asVar, unA, builtinA, lenOpA, lenA, ileb_cast, ileb_eq, ieqb_dec, indexAddrA, inB_dec, evPairs, storeA, AV.cellsOf, pairsOf, xI_nil, binBool, gcE, evOpt, tagZ, xI_block, xI_loopH, xI_condM, xI_exitM, xI_skip, xI_blk, exitA, ty2, ty3, ty24, eK17_0_0]
    simp only [R17_0_0, b17, Tryd.f17, Option.getD, fstC, sndC, bodyC, thnC, elsC]
    simp [xI_seq, xI_region, xI_ret, regA, regOps, runOps, opStep, wantedA, opA, evo, evos, calleeA, lk, nif_eq, putE, paramsE, valS, val2, keepE, restrict, finA, resA, binA, binInt, ofConst, ofConst1, loadA, TK.isAgg, asVar, unA, builtinA, lenOpA, lenA, ileb_cast, ileb_eq, ieqb_dec, indexAddrA, inB_dec, evPairs, storeA, AV.cellsOf, pairsOf, xI_nil, binBool, gcE, evOpt, tagZ, xI_block, xI_loopH, xI_condM, xI_exitM, xI_skip, xI_blk, exitA, ty2, ty3, ty24, eK17_0_0]
  rw [fi17] at h1 ⊢
  simp [xI_seq, xI_region, xI_ret, regA, regOps, runOps, opStep, wantedA, opA, evo, evos, calleeA, lk, nif_eq, putE, paramsE, valS, val2, keepE, restrict, finA, resA, binA, binInt, ofConst, ofConst1, loadA, TK.isAgg, asVar, unA, builtinA, lenOpA, lenA, ileb_cast, ileb_eq, ieqb_dec, indexAddrA, inB_dec, evPairs, storeA, AV.cellsOf, pairsOf, xI_nil, binBool, gcE, evOpt, tagZ, xI_block, xI_loopH, xI_condM, xI_exitM, xI_skip, xI_blk, exitA, ty2, ty3, ty24, eK17_0_0]
  exact h1

def allR (l : List Int) (lo hi : Int) : Bool := l.all fun n => inR n lo hi
theorem c134 (n lo hi : Int) (σ : St) (p q : Nat) (x y : Blk) (hp : σ.get p = some x) (hx : x.cells = [.int .i64 lo]) (hq : σ.get q = some y) (hy : y.cells = [.int .i64 hi]) : callI TT 134 [.int .i64 n, .ptr p 0, .ptr q 0] σ = some (.bool (!inR n lo hi), σ) := by
  rw [cI_0 fn134 rfl md134, fi134]
  simp [xI_seq, xI_region, xI_ret, regA, regOps, runOps, opStep, wantedA, opA, evo, evos, calleeA, lk, nif_eq, putE, paramsE, valS, val2, keepE, restrict, finA, resA, binA, binInt, ofConst, ofConst1, loadA, TK.isAgg, asVar, unA, builtinA, lenOpA, lenA, ileb_cast, ileb_eq, ieqb_dec, indexAddrA, inB_dec, evPairs, storeA, AV.cellsOf, pairsOf, xI_nil, binBool, gcE, evOpt, tagZ, xI_block, xI_loopH, xI_condM, xI_exitM, xI_skip, xI_blk, exitA, ty2, ty4, c69, cellsAt, hp, hx, hq, hy, getCells, takeN, dropN]

noncomputable def b163 : Code := Tryd.f163.body.getD .skip
noncomputable def B163_0 : Code := (bodyC (bodyC (sndC (fstC (sndC b163)))))
noncomputable def K163_0 : List It := .lp B163_0 :: .blk 0 :: .code (sndC (sndC b163)) :: []
theorem xl163_0 {fi : FI} {env : Env} {σ : St} : exI TT fi K163_0 env σ = exI TT fi (.code B163_0 :: K163_0) env σ := by unfold K163_0; exact xI_lp
noncomputable def R163_0_0 : List It := .code (sndC (sndC b163)) :: []
theorem eK163_0_0 : exitA 0 K163_0 = some R163_0_0 := rfl
theorem l163 (l : List Int) (len : Nat) (hlen : len = l.length) (hs : len < 3000000) (lo hi : Int) (σ : St) (p q : Nat) (x y : Blk) (hp : σ.get p = some x) (hx : x.cells = [.int .i64 lo]) (hq : σ.get q = some y) (hy : y.cells = [.int .i64 hi]) : ∀ (suf pre : List Int), l = pre ++ suf →
    ∃ r : Int, exI TT (FI.of Tryd.f163 (TT.an 163)) K163_0 [(0, .lst len (ints l)), (1, .fn 134 [] [.ptr p 0, .ptr q 0]), (7, .int .i64 len), (8, .int .i64 pre.length)] σ = some (.int .i64 r, σ) ∧ decide (0 ≤ r) = !allR suf lo hi := by
  intro suf
  induction suf with
  | nil =>
    intro pre hl
    refine ⟨-1, ?_, by simp [allR]⟩
    have hl : len = pre.length := by rw [hlen, hl]; simp
    subst hl
    rw [fi163]
    rw [xl163_0]
    simp only [B163_0, b163, Tryd.f163, Option.getD, fstC, sndC, bodyC, thnC, elsC]
    simp [xI_seq, xI_region, xI_ret, regA, regOps, runOps, opStep, wantedA, opA, evo, evos, calleeA, lk, nif_eq, putE, paramsE, valS, val2, keepE, restrict, finA, resA, binA, binInt, ofConst, ofConst1, loadA, TK.isAgg, asVar, unA, builtinA, lenOpA, lenA, ileb_cast, ileb_eq, ieqb_dec, indexAddrA, inB_dec, evPairs, storeA, AV.cellsOf, pairsOf, xI_nil, binBool, gcE, evOpt, tagZ, xI_block, xI_loopH, xI_condM, xI_exitM, xI_skip, xI_blk, exitA, ty2, ty3, ty24, eK163_0_0]
    simp only [R163_0_0, b163, Tryd.f163, Option.getD, fstC, sndC, bodyC, thnC, elsC]
    simp [xI_seq, xI_region, xI_ret, regA, regOps, runOps, opStep, wantedA, opA, evo, evos, calleeA, lk, nif_eq, putE, paramsE, valS, val2, keepE, restrict, finA, resA, binA, binInt, ofConst, ofConst1, loadA, TK.isAgg, asVar, unA, builtinA, lenOpA, lenA, ileb_cast, ileb_eq, ieqb_dec, indexAddrA, inB_dec, evPairs, storeA, AV.cellsOf, pairsOf, xI_nil, binBool, gcE, evOpt, tagZ, xI_block, xI_loopH, xI_condM, xI_exitM, xI_skip, xI_blk, exitA, ty2, ty3, ty24, eK163_0_0]
  | cons n suf ih =>
    intro pre hl
    have hll : len = pre.length + (suf.length + 1) := by rw [hlen, hl]; simp
    have hg : l[pre.length]? = some n := by simp [hl]
    obtain ⟨r, h1, h2⟩ := ih (pre ++ [n]) (by simp [hl])
    have hlt : ¬ len ≤ pre.length := by omega
    have hlt2 : pre.length < len := by omega
    have hw := wrapS (n := pre.length) (by omega)
    have hc := c134 n lo hi σ p q x y hp hx hq hy
    simp only [List.length_append, List.length_singleton] at h1
    cases hin : inR n lo hi with
    | true =>
      rw [hin] at hc
      refine ⟨r, ?_, by rw [h2]; simp [allR, hin]⟩
      rw [fi163] at h1 ⊢
      rw [xl163_0]
      simp only [B163_0, b163, Tryd.f163, Option.getD, fstC, sndC, bodyC, thnC, elsC]
      simp [xI_seq, xI_region, xI_ret, regA, regOps, runOps, opStep, wantedA, opA, evo, evos, calleeA, lk, nif_eq, putE, paramsE, valS, val2, keepE, restrict, finA, resA, binA, binInt, ofConst, ofConst1, loadA, TK.isAgg, asVar, unA, builtinA, lenOpA, lenA, ileb_cast, ileb_eq, ieqb_dec, indexAddrA, inB_dec, evPairs, storeA, AV.cellsOf, pairsOf, xI_nil, binBool, gcE, evOpt, tagZ, xI_block, xI_loopH, xI_condM, xI_exitM, xI_skip, xI_blk, exitA, ty2, ty3, ty24, eK163_0_0, hw, hlt, hlt2, lst_read hg, hc]
      simpa using h1
    | false =>
      rw [hin] at hc
      refine ⟨pre.length, ?_, by simp [allR, hin]⟩
      rw [fi163]
      rw [xl163_0]
      simp only [B163_0, b163, Tryd.f163, Option.getD, fstC, sndC, bodyC, thnC, elsC]
      simp [xI_seq, xI_region, xI_ret, regA, regOps, runOps, opStep, wantedA, opA, evo, evos, calleeA, lk, nif_eq, putE, paramsE, valS, val2, keepE, restrict, finA, resA, binA, binInt, ofConst, ofConst1, loadA, TK.isAgg, asVar, unA, builtinA, lenOpA, lenA, ileb_cast, ileb_eq, ieqb_dec, indexAddrA, inB_dec, evPairs, storeA, AV.cellsOf, pairsOf, xI_nil, binBool, gcE, evOpt, tagZ, xI_block, xI_loopH, xI_condM, xI_exitM, xI_skip, xI_blk, exitA, ty2, ty3, ty24, eK163_0_0, hw, hlt, hlt2, lst_read hg, hc]

theorem c133 (l : List Int) (len : Nat) (hlen : len = l.length) (hs : len < 3000000) (lo hi : Int) (σ : St) (p q : Nat) (x y : Blk) (hp : σ.get p = some x) (hx : x.cells = [.int .i64 lo]) (hq : σ.get q = some y) (hy : y.cells = [.int .i64 hi]) :
    callI TT 133 [.lst len (ints l), .fn 134 [] [.ptr p 0, .ptr q 0]] σ = some (.bool (!allR l lo hi), σ) := by
  obtain ⟨r, h1, h2⟩ := l163 l len hlen hs lo hi σ p q x y hp hx hq hy l [] rfl
  have hc : callI TT 163 [.lst len (ints l), .fn 134 [] [.ptr p 0, .ptr q 0]] σ = some (.int .i64 r, σ) := by
    rw [cI_0 fn163 rfl md163, ← h1, fi163]
    simp [xI_seq, xI_region, xI_ret, regA, regOps, runOps, opStep, wantedA, opA, evo, evos, calleeA, lk, nif_eq, putE, paramsE, valS, val2, keepE, restrict, finA, resA, binA, binInt, ofConst, ofConst1, loadA, TK.isAgg, asVar, unA, builtinA, lenOpA, lenA, ileb_cast, ileb_eq, ieqb_dec, indexAddrA, inB_dec, evPairs, storeA, AV.cellsOf, pairsOf, xI_nil, binBool, gcE, evOpt, tagZ, xI_block, xI_loopH, xI_condM, xI_exitM, xI_skip, xI_blk, exitA, ty2, ty3, ty24, eK163_0_0]
    rfl
  rw [cI_0 fn133 rfl md133, fi133]
  simp [xI_seq, xI_region, xI_ret, regA, regOps, runOps, opStep, wantedA, opA, evo, evos, calleeA, lk, nif_eq, putE, paramsE, valS, val2, keepE, restrict, finA, resA, binA, binInt, ofConst, ofConst1, loadA, TK.isAgg, asVar, unA, builtinA, lenOpA, lenA, ileb_cast, ileb_eq, ieqb_dec, indexAddrA, inB_dec, evPairs, storeA, AV.cellsOf, pairsOf, xI_nil, binBool, gcE, evOpt, tagZ, xI_block, xI_loopH, xI_condM, xI_exitM, xI_skip, xI_blk, exitA, ty3, hc, h2]

theorem v94 (l : List Int) (len : Nat) (hlen : len = l.length) (hs : len < 3000000) (lo hi : Int) : FnV TT 94 [.lst len (ints l), .int .i64 lo, .int .i64 hi] (.bool (allR l lo hi)) := by
  have h := c133 l len hlen hs lo hi (((⟨[], 0⟩ : St).push ⟨[.int .i64 lo], 1, false⟩).push ⟨[.int .i64 hi], 1, false⟩) 0 1 _ _ rfl rfl rfl rfl
  refine FnV.mk fn94 rfl md94 ⟨((⟨[], 0⟩ : St).push ⟨[.int .i64 lo], 1, false⟩).push ⟨[.int .i64 hi], 1, false⟩, ?_⟩ (fun _ => rfl) rfl
  rw [fi94]
  simp [xI_seq, xI_region, xI_ret, regA, regOps, runOps, opStep, wantedA, opA, evo, evos, calleeA, lk, nif_eq, putE, paramsE, valS, val2, keepE, restrict, finA, resA, binA, binInt, ofConst, ofConst1, loadA, TK.isAgg, asVar, unA, builtinA, lenOpA, lenA, ileb_cast, ileb_eq, ieqb_dec, indexAddrA, inB_dec, evPairs, storeA, AV.cellsOf, pairsOf, xI_nil, binBool, gcE, evOpt, tagZ, xI_block, xI_loopH, xI_condM, xI_exitM, xI_skip, xI_blk, exitA, ty2, ty4, h, allOne, AV.one, n_push]

theorem inR_iff {n lo hi : Int} : inR n lo hi = true ↔ lo ≤ n ∧ n ≤ hi := by simp [inR]
theorem allR_spec {l : List Int} {lo hi : Int} (h : allR l lo hi = true) : ∀ c ∈ l, lo ≤ c ∧ c ≤ hi := fun c hc => inR_iff.1 (List.all_eq_true.1 h c hc)
end Go.Proofs.YthkdbkjkccogfaaDoor
