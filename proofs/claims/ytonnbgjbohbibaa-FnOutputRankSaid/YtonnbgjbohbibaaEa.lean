/- Contracts of the laws' helpers. Nothing is claimed here; no condition. -/
import Derived.Test.YtonnbgjbohbibaaHd
namespace Go.Proofs.Ytonnbgjbohbibaa
open Go Go.Abs
set_option linter.unusedSimpArgs false
set_option linter.unusedVariables false
def inR (n lo hi : Int) : Bool := decide (lo ≤ n) && decide (n ≤ hi)
theorem bs1 (σ : St) (x : Int) : buildSliceA TT σ 33 1 [(0, .int .i64 x)] = some (.sl σ.n 0 1 1, σ.push ⟨[.int .i64 x], 1, false⟩) := build_one ty33 ty2
theorem bn0 (σ : St) : buildSliceA TT σ 33 0 [] = some (.sl σ.n 0 0 0, σ.push ⟨ints [], 1, false⟩) := build_nil ty33 ty2
theorem mkI (σ : St) (n : Nat) (hn : n ≤ 17592186044416) : makeSliceA TT σ 33 (.int .i64 n) (.int .i64 n) = some (.sl σ.n 0 n n, σ.push ⟨ints (List.replicate n 0), 1, false⟩) := make_ints ty33 ty2 hn
def iotaF (k : Int) : Nat → List Int
  | 0 => []
  | m + 1 => k :: iotaF (k + 1) m
theorem iotaF_get : ∀ (m : Nat) (k : Int) (i : Nat), i < m → (iotaF k m)[i]? = some (k + (i : Int))
  | 0, _, _, h => by omega
  | m + 1, k, 0, _ => by simp [iotaF]
  | m + 1, k, i + 1, h => by simp only [iotaF, List.getElem?_cons_succ]; rw [iotaF_get m (k + 1) i (by omega)]; congr 1; omega
theorem iotaF_length : ∀ (m : Nat) (k : Int), (iotaF k m).length = m
  | 0, _ => rfl
  | m + 1, k => by simp [iotaF, iotaF_length m]

theorem c80 (n lo hi : Int) (σ : St) : callI TT 80 [.int .i64 n, .int .i64 lo, .int .i64 hi] σ = some (.bool (inR n lo hi), σ) := by
  refine (FnV.mk (args' := [.int .i64 n, .int .i64 lo, .int .i64 hi]) fn80 rfl md80 ⟨⟨[], 0⟩, ?_⟩ (fun _ => rfl) rfl) σ _ rfl
  rw [fi80]
  by_cases h1 : lo ≤ n <;> simp [xI_seq, xI_region, xI_ret, regA, regOps, runOps, opStep, wantedA, opA, evo, evos, calleeA, lk, nif_eq, putE, paramsE, valS, val2, keepE, restrict, finA, resA, binA, binInt, ofConst, ofConst1, loadA, TK.isAgg, asVar, unA, builtinA, lenOpA, lenA, ileb_cast, ileb_eq, ieqb_dec, indexAddrA, inB_dec, evPairs, storeA, AV.cellsOf, pairsOf, xI_nil, binBool, gcE, evOpt, inR, h1]

theorem c88 (n lo hi : Int) (σ : St) : callI TT 88 [.int .i64 n, .int .i64 lo, .int .i64 hi] σ = some (.bool (inR n lo hi), σ) := by
  refine (FnV.mk (args' := [.int .i64 n, .int .i64 lo, .int .i64 hi]) fn88 rfl md88 ⟨⟨[], 0⟩, ?_⟩ (fun _ => rfl) rfl) σ _ rfl
  rw [fi88]
  by_cases h1 : lo ≤ n <;> simp [xI_seq, xI_region, xI_ret, regA, regOps, runOps, opStep, wantedA, opA, evo, evos, calleeA, lk, nif_eq, putE, paramsE, valS, val2, keepE, restrict, finA, resA, binA, binInt, ofConst, ofConst1, loadA, TK.isAgg, asVar, unA, builtinA, lenOpA, lenA, ileb_cast, ileb_eq, ieqb_dec, indexAddrA, inB_dec, evPairs, storeA, AV.cellsOf, pairsOf, xI_nil, binBool, gcE, evOpt, inR, h1]

theorem v81 (l : List Int) (n : Nat) : FnV TT 81 [.lst n (ints l)] (.int .i64 n) := by
  refine FnV.mk fn81 rfl md81 ⟨⟨[], 0⟩, ?_⟩ (fun _ => rfl) rfl
  rw [fi81]
  simp [xI_seq, xI_region, xI_ret, regA, regOps, runOps, opStep, wantedA, opA, evo, evos, calleeA, lk, nif_eq, putE, paramsE, valS, val2, keepE, restrict, finA, resA, binA, binInt, ofConst, ofConst1, loadA, TK.isAgg, asVar, unA, builtinA, lenOpA, lenA, ileb_cast, ileb_eq, ieqb_dec, indexAddrA, inB_dec, evPairs, storeA, AV.cellsOf, pairsOf, xI_nil, binBool, gcE, evOpt, ty2, ty33]
theorem v81n : FnV TT 81 [.nilS] (.int .i64 0) := by
  refine FnV.mk fn81 rfl md81 ⟨⟨[], 0⟩, ?_⟩ (fun _ => rfl) rfl
  rw [fi81]
  simp [xI_seq, xI_region, xI_ret, regA, regOps, runOps, opStep, wantedA, opA, evo, evos, calleeA, lk, nif_eq, putE, paramsE, valS, val2, keepE, restrict, finA, resA, binA, binInt, ofConst, ofConst1, loadA, TK.isAgg, asVar, unA, builtinA, lenOpA, lenA, ileb_cast, ileb_eq, ieqb_dec, indexAddrA, inB_dec, evPairs, storeA, AV.cellsOf, pairsOf, xI_nil, binBool, gcE, evOpt, ty2, ty33]

noncomputable def b43 : Code := Try.f43.body.getD .skip
noncomputable def B43_0 : Code := (bodyC (bodyC (sndC (fstC (sndC (sndC b43))))))
noncomputable def K43_0 : List It := .lp B43_0 :: .blk 0 :: .code (sndC (sndC (sndC b43))) :: []
theorem xl43_0 {fi : FI} {env : Env} {σ : St} : exI TT fi K43_0 env σ = exI TT fi (.code B43_0 :: K43_0) env σ := by unfold K43_0; exact xI_lp
noncomputable def R43_0_0 : List It := .code (sndC (sndC (sndC b43))) :: []
theorem eK43_0_0 : exitA 0 K43_0 = some R43_0_0 := rfl
theorem l43 (l : List Int) (len : Nat) (hlen : len = l.length) (hs : len < 1000000000000) : ∀ (suf pre : List Int) (σ : St) (b : Nat) (z : List Int), l = pre ++ suf → z.length = suf.length → Row σ b (pre ++ z) →
    ∃ σ', exI TT (FI.of Try.f43 (TT.an 43)) K43_0 [(0, .lst len (ints l)), (3, .sl b 0 len len), (4, .int .i64 pre.length)] σ = some (.sl b 0 len len, σ') ∧ Row σ' b l := by
  intro suf
  induction suf with
  | nil =>
    intro pre σ b z hl hz hr
    have hz : z = [] := by simpa using hz
    subst hz
    have hl : l = pre := by simpa using hl
    subst hl
    refine ⟨σ, ?_, by simpa using hr⟩
    subst hlen
    rw [fi43]
    rw [xl43_0]
    simp only [B43_0, b43, Try.f43, Option.getD, fstC, sndC, bodyC, thnC, elsC]
    simp [xI_seq, xI_region, xI_ret, regA, regOps, runOps, opStep, wantedA, opA, evo, evos, calleeA, lk, nif_eq, putE, paramsE, valS, val2, keepE, restrict, finA, resA, binA, binInt, ofConst, ofConst1, loadA, TK.isAgg, asVar, unA, builtinA, lenOpA, lenA, ileb_cast, ileb_eq, ieqb_dec, indexAddrA, inB_dec, evPairs, storeA, AV.cellsOf, pairsOf, xI_nil, binBool, gcE, evOpt, xI_block, xI_loopH, xI_condM, xI_exitM, xI_skip, xI_blk, exitA, ty2, ty3, ty33, eK43_0_0]
    simp only [R43_0_0, b43, Try.f43, Option.getD, fstC, sndC, bodyC, thnC, elsC]
    simp [xI_seq, xI_region, xI_ret, regA, regOps, runOps, opStep, wantedA, opA, evo, evos, calleeA, lk, nif_eq, putE, paramsE, valS, val2, keepE, restrict, finA, resA, binA, binInt, ofConst, ofConst1, loadA, TK.isAgg, asVar, unA, builtinA, lenOpA, lenA, ileb_cast, ileb_eq, ieqb_dec, indexAddrA, inB_dec, evPairs, storeA, AV.cellsOf, pairsOf, xI_nil, binBool, gcE, evOpt, xI_block, xI_loopH, xI_condM, xI_exitM, xI_skip, xI_blk, exitA, ty2, ty3, ty33, eK43_0_0]
  | cons x suf ih =>
    intro pre σ b z hl hz hr
    obtain ⟨y, z, rfl⟩ : ∃ y z', z = y :: z' := by cases z with | nil => simp at hz | cons y z => exact ⟨y, z, rfl⟩
    have hg : l[pre.length]? = some x := by simp [hl]
    have hll : len = pre.length + (suf.length + 1) := by rw [hlen, hl]; simp
    obtain ⟨σ1, hst, hr1, hn1, _⟩ := store_row (i := pre.length) (x := x) hr (by simp)
    rw [set_app] at hr1
    obtain ⟨σ', h1, h2⟩ := ih (pre ++ [x]) σ1 b z (by simp [hl]) (by simpa using hz) (by simpa using hr1)
    refine ⟨σ', ?_, h2⟩
    have hlt : ¬ len ≤ pre.length := by omega
    have hlt2 : pre.length < len := by omega
    have hw := wrapS (n := pre.length) (by omega)
    rw [fi43] at h1 ⊢
    rw [xl43_0]
    simp only [B43_0, b43, Try.f43, Option.getD, fstC, sndC, bodyC, thnC, elsC]
    simp [xI_seq, xI_region, xI_ret, regA, regOps, runOps, opStep, wantedA, opA, evo, evos, calleeA, lk, nif_eq, putE, paramsE, valS, val2, keepE, restrict, finA, resA, binA, binInt, ofConst, ofConst1, loadA, TK.isAgg, asVar, unA, builtinA, lenOpA, lenA, ileb_cast, ileb_eq, ieqb_dec, indexAddrA, inB_dec, evPairs, storeA, AV.cellsOf, pairsOf, xI_nil, binBool, gcE, evOpt, xI_block, xI_loopH, xI_condM, xI_exitM, xI_skip, xI_blk, exitA, ty2, ty3, ty33, eK43_0_0, hw, hlt, hlt2, lst_read hg, hst]
    simpa using h1
theorem s43 (l : List Int) (len : Nat) (hlen : len = l.length) (hs : len < 1000000000000) : FnS TT 43 [.lst len (ints l)] l := by
  obtain ⟨σ', h1, o, h2, _⟩ := l43 l len hlen hs l [] ((⟨[], 0⟩ : St).push ⟨ints (List.replicate len 0), 1, false⟩) 0 (List.replicate len 0) rfl (by simp [hlen]) Row.push
  refine FnS.mk fn43 rfl md43 ⟨σ', 0, o, ?_, h2⟩
  rw [← hlen, ← h1]
  have hm := mkI ⟨[], 0⟩ len (by omega)
  rw [fi43]
  simp [xI_seq, xI_region, xI_ret, regA, regOps, runOps, opStep, wantedA, opA, evo, evos, calleeA, lk, nif_eq, putE, paramsE, valS, val2, keepE, restrict, finA, resA, binA, binInt, ofConst, ofConst1, loadA, TK.isAgg, asVar, unA, builtinA, lenOpA, lenA, ileb_cast, ileb_eq, ieqb_dec, indexAddrA, inB_dec, evPairs, storeA, AV.cellsOf, pairsOf, xI_nil, binBool, gcE, evOpt, xI_block, xI_loopH, xI_condM, xI_exitM, xI_skip, xI_blk, exitA, ty2, ty3, ty33, eK43_0_0, hm]
  rfl
theorem l43n (σ : St) (b : Nat) : exI TT (FI.of Try.f43 (TT.an 43)) K43_0 [(0, .nilS), (3, .sl b 0 0 0), (4, .int .i64 0)] σ = some (.sl b 0 0 0, σ) := by
  rw [fi43]
  rw [xl43_0]
  simp only [B43_0, b43, Try.f43, Option.getD, fstC, sndC, bodyC, thnC, elsC]
  simp [xI_seq, xI_region, xI_ret, regA, regOps, runOps, opStep, wantedA, opA, evo, evos, calleeA, lk, nif_eq, putE, paramsE, valS, val2, keepE, restrict, finA, resA, binA, binInt, ofConst, ofConst1, loadA, TK.isAgg, asVar, unA, builtinA, lenOpA, lenA, ileb_cast, ileb_eq, ieqb_dec, indexAddrA, inB_dec, evPairs, storeA, AV.cellsOf, pairsOf, xI_nil, binBool, gcE, evOpt, xI_block, xI_loopH, xI_condM, xI_exitM, xI_skip, xI_blk, exitA, ty2, ty3, ty33, eK43_0_0]
  simp only [R43_0_0, b43, Try.f43, Option.getD, fstC, sndC, bodyC, thnC, elsC]
  simp [xI_seq, xI_region, xI_ret, regA, regOps, runOps, opStep, wantedA, opA, evo, evos, calleeA, lk, nif_eq, putE, paramsE, valS, val2, keepE, restrict, finA, resA, binA, binInt, ofConst, ofConst1, loadA, TK.isAgg, asVar, unA, builtinA, lenOpA, lenA, ileb_cast, ileb_eq, ieqb_dec, indexAddrA, inB_dec, evPairs, storeA, AV.cellsOf, pairsOf, xI_nil, binBool, gcE, evOpt, xI_block, xI_loopH, xI_condM, xI_exitM, xI_skip, xI_blk, exitA, ty2, ty3, ty33, eK43_0_0]
theorem s43n : FnS TT 43 [.nilS] [] := by
  refine FnS.mk fn43 rfl md43 ⟨(⟨[], 0⟩ : St).push ⟨ints [], 1, false⟩, 0, false, ?_, rfl⟩
  have hm := mkI ⟨[], 0⟩ 0 (by omega)
  have h1 := l43n ((⟨[], 0⟩ : St).push ⟨ints [], 1, false⟩) 0
  simp only [Int.natCast_zero, show ((0 : Nat) : Int) = 0 from rfl] at hm
  rw [fi43] at h1 ⊢
  simp [xI_seq, xI_region, xI_ret, regA, regOps, runOps, opStep, wantedA, opA, evo, evos, calleeA, lk, nif_eq, putE, paramsE, valS, val2, keepE, restrict, finA, resA, binA, binInt, ofConst, ofConst1, loadA, TK.isAgg, asVar, unA, builtinA, lenOpA, lenA, ileb_cast, ileb_eq, ieqb_dec, indexAddrA, inB_dec, evPairs, storeA, AV.cellsOf, pairsOf, xI_nil, binBool, gcE, evOpt, xI_block, xI_loopH, xI_condM, xI_exitM, xI_skip, xI_blk, exitA, ty2, ty3, ty33, eK43_0_0, hm]
  exact h1

noncomputable def b44 : Code := Try.f44.body.getD .skip
noncomputable def B44_0 : Code := (bodyC (bodyC (sndC (fstC (sndC (sndC b44))))))
noncomputable def K44_0 : List It := .lp B44_0 :: .blk 0 :: .code (sndC (sndC (sndC b44))) :: []
theorem xl44_0 {fi : FI} {env : Env} {σ : St} : exI TT fi K44_0 env σ = exI TT fi (.code B44_0 :: K44_0) env σ := by unfold K44_0; exact xI_lp
noncomputable def R44_0_0 : List It := .code (sndC (sndC (sndC b44))) :: []
theorem eK44_0_0 : exitA 0 K44_0 = some R44_0_0 := rfl
theorem l44 (a b : List Int) (len : Nat) (hlen : len = a.length) (hlen2 : len = b.length) (hs : len < 1000000000000) (σ : St) : ∀ (suf suf2 pre pre2 : List Int), a = pre ++ suf → b = pre2 ++ suf2 → pre.length = pre2.length →
    exI TT (FI.of Try.f44 (TT.an 44)) K44_0 [(0, .lst len (ints a)), (1, .lst len (ints b)), (5, .int .i64 pre.length)] σ = some (.bool (decide (suf = suf2)), σ) := by
  intro suf
  induction suf with
  | nil =>
    intro suf2 pre pre2 ha hb hp
    have h0 : suf2 = [] := by
      have := congrArg List.length ha; have := congrArg List.length hb; simp at *; cases suf2 with | nil => rfl | cons y z => simp at *; omega
    subst h0
    have hl : len = pre.length := by rw [hlen, ha]; simp
    subst hl
    rw [fi44]
    rw [xl44_0]
    simp only [B44_0, b44, Try.f44, Option.getD, fstC, sndC, bodyC, thnC, elsC]
    simp [xI_seq, xI_region, xI_ret, regA, regOps, runOps, opStep, wantedA, opA, evo, evos, calleeA, lk, nif_eq, putE, paramsE, valS, val2, keepE, restrict, finA, resA, binA, binInt, ofConst, ofConst1, loadA, TK.isAgg, asVar, unA, builtinA, lenOpA, lenA, ileb_cast, ileb_eq, ieqb_dec, indexAddrA, inB_dec, evPairs, storeA, AV.cellsOf, pairsOf, xI_nil, binBool, gcE, evOpt, xI_block, xI_loopH, xI_condM, xI_exitM, xI_skip, xI_blk, exitA, ty2, ty3, ty33, eK44_0_0]
    simp only [R44_0_0, b44, Try.f44, Option.getD, fstC, sndC, bodyC, thnC, elsC]
    simp [xI_seq, xI_region, xI_ret, regA, regOps, runOps, opStep, wantedA, opA, evo, evos, calleeA, lk, nif_eq, putE, paramsE, valS, val2, keepE, restrict, finA, resA, binA, binInt, ofConst, ofConst1, loadA, TK.isAgg, asVar, unA, builtinA, lenOpA, lenA, ileb_cast, ileb_eq, ieqb_dec, indexAddrA, inB_dec, evPairs, storeA, AV.cellsOf, pairsOf, xI_nil, binBool, gcE, evOpt, xI_block, xI_loopH, xI_condM, xI_exitM, xI_skip, xI_blk, exitA, ty2, ty3, ty33, eK44_0_0]
  | cons x suf ih =>
    intro suf2 pre pre2 ha hb hp
    obtain ⟨y, suf2, rfl⟩ : ∃ y z', suf2 = y :: z' := by
      cases suf2 with
      | nil => have := congrArg List.length ha; have := congrArg List.length hb; simp at *; omega
      | cons y z => exact ⟨y, z, rfl⟩
    have hg : a[pre.length]? = some x := by simp [ha]
    have hg2 : b[pre.length]? = some y := by simp [hb, hp]
    have hll : len = pre.length + (suf.length + 1) := by rw [hlen, ha]; simp
    have h1 := ih suf2 (pre ++ [x]) (pre2 ++ [y]) (by simp [ha]) (by simp [hb]) (by simp [hp])
    have hlt : ¬ len ≤ pre.length := by omega
    have hlt2 : pre.length < len := by omega
    have hw := wrapS (n := pre.length) (by omega)
    by_cases hxy : x = y
    · subst hxy
      rw [fi44] at h1 ⊢
      rw [xl44_0]
      simp only [B44_0, b44, Try.f44, Option.getD, fstC, sndC, bodyC, thnC, elsC]
      simp [xI_seq, xI_region, xI_ret, regA, regOps, runOps, opStep, wantedA, opA, evo, evos, calleeA, lk, nif_eq, putE, paramsE, valS, val2, keepE, restrict, finA, resA, binA, binInt, ofConst, ofConst1, loadA, TK.isAgg, asVar, unA, builtinA, lenOpA, lenA, ileb_cast, ileb_eq, ieqb_dec, indexAddrA, inB_dec, evPairs, storeA, AV.cellsOf, pairsOf, xI_nil, binBool, gcE, evOpt, xI_block, xI_loopH, xI_condM, xI_exitM, xI_skip, xI_blk, exitA, ty2, ty3, ty33, eK44_0_0, hw, hlt, hlt2, lst_read hg, lst_read hg2]
      simpa using h1
    · rw [fi44]
      rw [xl44_0]
      simp only [B44_0, b44, Try.f44, Option.getD, fstC, sndC, bodyC, thnC, elsC]
      simp [xI_seq, xI_region, xI_ret, regA, regOps, runOps, opStep, wantedA, opA, evo, evos, calleeA, lk, nif_eq, putE, paramsE, valS, val2, keepE, restrict, finA, resA, binA, binInt, ofConst, ofConst1, loadA, TK.isAgg, asVar, unA, builtinA, lenOpA, lenA, ileb_cast, ileb_eq, ieqb_dec, indexAddrA, inB_dec, evPairs, storeA, AV.cellsOf, pairsOf, xI_nil, binBool, gcE, evOpt, xI_block, xI_loopH, xI_condM, xI_exitM, xI_skip, xI_blk, exitA, ty2, ty3, ty33, eK44_0_0, hw, hlt, hlt2, lst_read hg, lst_read hg2, hxy]
theorem v44 (a b : List Int) (n m : Nat) (hn : n = a.length) (hm : m = b.length) (hs : n < 1000000000000) : FnV TT 44 [.lst n (ints a), .lst m (ints b)] (.bool (decide (a = b))) := by
  refine FnV.mk fn44 rfl md44 ⟨⟨[], 0⟩, ?_⟩ (fun _ => rfl) rfl
  by_cases hnm : n = m
  · subst hnm
    have h1 := l44 a b n hn hm hs ⟨[], 0⟩ a b [] [] rfl rfl rfl
    rw [fi44] at h1 ⊢
    simp [xI_seq, xI_region, xI_ret, regA, regOps, runOps, opStep, wantedA, opA, evo, evos, calleeA, lk, nif_eq, putE, paramsE, valS, val2, keepE, restrict, finA, resA, binA, binInt, ofConst, ofConst1, loadA, TK.isAgg, asVar, unA, builtinA, lenOpA, lenA, ileb_cast, ileb_eq, ieqb_dec, indexAddrA, inB_dec, evPairs, storeA, AV.cellsOf, pairsOf, xI_nil, binBool, gcE, evOpt, xI_block, xI_loopH, xI_condM, xI_exitM, xI_skip, xI_blk, exitA, ty2, ty3, ty33, eK44_0_0]
    exact h1
  · have hab : a ≠ b := fun e => hnm (by rw [hn, hm, e])
    have hnm' : ¬ (n : Int) = m := by omega
    rw [fi44]
    simp [xI_seq, xI_region, xI_ret, regA, regOps, runOps, opStep, wantedA, opA, evo, evos, calleeA, lk, nif_eq, putE, paramsE, valS, val2, keepE, restrict, finA, resA, binA, binInt, ofConst, ofConst1, loadA, TK.isAgg, asVar, unA, builtinA, lenOpA, lenA, ileb_cast, ileb_eq, ieqb_dec, indexAddrA, inB_dec, evPairs, storeA, AV.cellsOf, pairsOf, xI_nil, binBool, gcE, evOpt, xI_block, xI_loopH, xI_condM, xI_exitM, xI_skip, xI_blk, exitA, ty2, ty3, ty33, eK44_0_0, hnm, hnm', hab]
theorem v44n : FnV TT 44 [.nilS, .nilS] (.bool true) := by
  refine FnV.mk fn44 rfl md44 ⟨⟨[], 0⟩, ?_⟩ (fun _ => rfl) rfl
  have h1 : exI TT (FI.of Try.f44 (TT.an 44)) K44_0 [(0, .nilS), (1, .nilS), (5, .int .i64 0)] ⟨[], 0⟩ = some (.bool true, ⟨[], 0⟩) := by
    rw [fi44]
    rw [xl44_0]
    simp only [B44_0, b44, Try.f44, Option.getD, fstC, sndC, bodyC, thnC, elsC]
    simp [xI_seq, xI_region, xI_ret, regA, regOps, runOps, opStep, wantedA, opA, evo, evos, calleeA, lk, nif_eq, putE, paramsE, valS, val2, keepE, restrict, finA, resA, binA, binInt, ofConst, ofConst1, loadA, TK.isAgg, asVar, unA, builtinA, lenOpA, lenA, ileb_cast, ileb_eq, ieqb_dec, indexAddrA, inB_dec, evPairs, storeA, AV.cellsOf, pairsOf, xI_nil, binBool, gcE, evOpt, xI_block, xI_loopH, xI_condM, xI_exitM, xI_skip, xI_blk, exitA, ty2, ty3, ty33, eK44_0_0]
    simp only [R44_0_0, b44, Try.f44, Option.getD, fstC, sndC, bodyC, thnC, elsC]
    simp [xI_seq, xI_region, xI_ret, regA, regOps, runOps, opStep, wantedA, opA, evo, evos, calleeA, lk, nif_eq, putE, paramsE, valS, val2, keepE, restrict, finA, resA, binA, binInt, ofConst, ofConst1, loadA, TK.isAgg, asVar, unA, builtinA, lenOpA, lenA, ileb_cast, ileb_eq, ieqb_dec, indexAddrA, inB_dec, evPairs, storeA, AV.cellsOf, pairsOf, xI_nil, binBool, gcE, evOpt, xI_block, xI_loopH, xI_condM, xI_exitM, xI_skip, xI_blk, exitA, ty2, ty3, ty33, eK44_0_0]
  rw [fi44] at h1 ⊢
  simp [xI_seq, xI_region, xI_ret, regA, regOps, runOps, opStep, wantedA, opA, evo, evos, calleeA, lk, nif_eq, putE, paramsE, valS, val2, keepE, restrict, finA, resA, binA, binInt, ofConst, ofConst1, loadA, TK.isAgg, asVar, unA, builtinA, lenOpA, lenA, ileb_cast, ileb_eq, ieqb_dec, indexAddrA, inB_dec, evPairs, storeA, AV.cellsOf, pairsOf, xI_nil, binBool, gcE, evOpt, xI_block, xI_loopH, xI_condM, xI_exitM, xI_skip, xI_blk, exitA, ty2, ty3, ty33, eK44_0_0]
  exact h1

noncomputable def b45 : Code := Try.f45.body.getD .skip
noncomputable def B45_0 : Code := (bodyC (bodyC (sndC (fstC (sndC b45)))))
noncomputable def K45_0 : List It := .lp B45_0 :: .blk 0 :: .code (sndC (sndC b45)) :: []
theorem xl45_0 {fi : FI} {env : Env} {σ : St} : exI TT fi K45_0 env σ = exI TT fi (.code B45_0 :: K45_0) env σ := by unfold K45_0; exact xI_lp
noncomputable def R45_0_0 : List It := .code (sndC (sndC b45)) :: []
theorem eK45_0_0 : exitA 0 K45_0 = some R45_0_0 := rfl
theorem l45 (b n : Nat) (hs : n < 1000000000000) : ∀ (suf pre : List Int) (k : Nat) (σ : St), n = pre.length + suf.length → k + suf.length < 1000000000000 → Row σ b (pre ++ suf) →
    ∃ σ', exI TT (FI.of Try.f45 (TT.an 45)) K45_0 [(0, .sl b 0 n n), (1, .int .i64 k), (5, .int .i64 pre.length)] σ = some (.int .i64 (k + suf.length : Nat), σ') ∧ Row σ' b (pre ++ iotaF k suf.length) ∧ But b σ σ' := by
  intro suf
  induction suf with
  | nil =>
    intro pre k σ hn hk hr
    have hn : n = pre.length := by simpa using hn
    subst hn
    refine ⟨σ, ?_, by simpa [iotaF] using hr, rfl, fun _ _ => rfl⟩
    rw [fi45]
    rw [xl45_0]
    simp only [B45_0, b45, Try.f45, Option.getD, fstC, sndC, bodyC, thnC, elsC]
    simp [xI_seq, xI_region, xI_ret, regA, regOps, runOps, opStep, wantedA, opA, evo, evos, calleeA, lk, nif_eq, putE, paramsE, valS, val2, keepE, restrict, finA, resA, binA, binInt, ofConst, ofConst1, loadA, TK.isAgg, asVar, unA, builtinA, lenOpA, lenA, ileb_cast, ileb_eq, ieqb_dec, indexAddrA, inB_dec, evPairs, storeA, AV.cellsOf, pairsOf, xI_nil, binBool, gcE, evOpt, xI_block, xI_loopH, xI_condM, xI_exitM, xI_skip, xI_blk, exitA, ty2, ty3, ty33, eK45_0_0]
    simp only [R45_0_0, b45, Try.f45, Option.getD, fstC, sndC, bodyC, thnC, elsC]
    simp [xI_seq, xI_region, xI_ret, regA, regOps, runOps, opStep, wantedA, opA, evo, evos, calleeA, lk, nif_eq, putE, paramsE, valS, val2, keepE, restrict, finA, resA, binA, binInt, ofConst, ofConst1, loadA, TK.isAgg, asVar, unA, builtinA, lenOpA, lenA, ileb_cast, ileb_eq, ieqb_dec, indexAddrA, inB_dec, evPairs, storeA, AV.cellsOf, pairsOf, xI_nil, binBool, gcE, evOpt, xI_block, xI_loopH, xI_condM, xI_exitM, xI_skip, xI_blk, exitA, ty2, ty3, ty33, eK45_0_0]
  | cons x suf ih =>
    intro pre k σ hn hk hr
    have hk' : k + (suf.length + 1) < 1000000000000 := by simpa using hk
    have hn : n = pre.length + (suf.length + 1) := by simpa using hn
    obtain ⟨σ1, hst, hr1, hn1, ho1⟩ := store_row (i := pre.length) (x := k) hr (by simp)
    rw [set_app] at hr1
    obtain ⟨σ', h1, h2, h3, h4⟩ := ih (pre ++ [(k : Int)]) (k + 1) σ1 (by simp; omega) (by simp at hk; omega) (by simpa using hr1)
    refine ⟨σ', ?_, by simpa [iotaF] using h2, h3.trans hn1, fun c hc => (h4 c hc).trans (ho1 c hc)⟩
    have hlt : ¬ n ≤ pre.length := by omega
    have hlt2 : pre.length < n := by omega
    have hw := wrapS (n := pre.length) (by omega)
    have hw2 := wrapS (n := k) (by omega)
    rw [fi45] at h1 ⊢
    rw [xl45_0]
    simp only [B45_0, b45, Try.f45, Option.getD, fstC, sndC, bodyC, thnC, elsC]
    simp [xI_seq, xI_region, xI_ret, regA, regOps, runOps, opStep, wantedA, opA, evo, evos, calleeA, lk, nif_eq, putE, paramsE, valS, val2, keepE, restrict, finA, resA, binA, binInt, ofConst, ofConst1, loadA, TK.isAgg, asVar, unA, builtinA, lenOpA, lenA, ileb_cast, ileb_eq, ieqb_dec, indexAddrA, inB_dec, evPairs, storeA, AV.cellsOf, pairsOf, xI_nil, binBool, gcE, evOpt, xI_block, xI_loopH, xI_condM, xI_exitM, xI_skip, xI_blk, exitA, ty2, ty3, ty33, eK45_0_0, hw, hw2, hlt, hlt2, hst]
    rw [show ((k : Int) + ((suf.length : Int) + 1)) = (k : Int) + 1 + suf.length by omega]
    simpa using h1

theorem m45 (σ : St) (b n k : Nat) (l : List Int) (hn : n = l.length) (hs : n < 2000000) (hk : k < 2000000) (hr : Row σ b l) :
    ∃ σ', callI TT 45 [.sl b 0 n n, .int .i64 k] σ = some (.int .i64 (k + n : Nat), σ') ∧ Row σ' b (iotaF k n) ∧ But b σ σ' := by
  obtain ⟨σ', h1, h2, h3, h4⟩ := l45 b n (by omega) l [] k σ (by simp [hn]) (by omega) hr
  refine ⟨σ', ?_, by simpa [hn] using h2, h3, h4⟩
  rw [cI_0 fn45 rfl md45]
  rw [← hn] at h1
  rw [← h1, fi45]
  simp [xI_seq, xI_region, xI_ret, regA, regOps, runOps, opStep, wantedA, opA, evo, evos, calleeA, lk, nif_eq, putE, paramsE, valS, val2, keepE, restrict, finA, resA, binA, binInt, ofConst, ofConst1, loadA, TK.isAgg, asVar, unA, builtinA, lenOpA, lenA, ileb_cast, ileb_eq, ieqb_dec, indexAddrA, inB_dec, evPairs, storeA, AV.cellsOf, pairsOf, xI_nil, binBool, gcE, evOpt, xI_block, xI_loopH, xI_condM, xI_exitM, xI_skip, xI_blk, exitA, ty2, ty3, ty33, eK45_0_0]
  rfl
theorem m45n (σ : St) (k : Nat) : callI TT 45 [.nilS, .int .i64 k] σ = some (.int .i64 k, σ) := by
  have h1 : exI TT (FI.of Try.f45 (TT.an 45)) K45_0 [(0, .nilS), (1, .int .i64 k), (5, .int .i64 0)] σ = some (.int .i64 k, σ) := by
    rw [fi45]
    rw [xl45_0]
    simp only [B45_0, b45, Try.f45, Option.getD, fstC, sndC, bodyC, thnC, elsC]
    simp [xI_seq, xI_region, xI_ret, regA, regOps, runOps, opStep, wantedA, opA, evo, evos, calleeA, lk, nif_eq, putE, paramsE, valS, val2, keepE, restrict, finA, resA, binA, binInt, ofConst, ofConst1, loadA, TK.isAgg, asVar, unA, builtinA, lenOpA, lenA, ileb_cast, ileb_eq, ieqb_dec, indexAddrA, inB_dec, evPairs, storeA, AV.cellsOf, pairsOf, xI_nil, binBool, gcE, evOpt, xI_block, xI_loopH, xI_condM, xI_exitM, xI_skip, xI_blk, exitA, ty2, ty3, ty33, eK45_0_0]
    simp only [R45_0_0, b45, Try.f45, Option.getD, fstC, sndC, bodyC, thnC, elsC]
    simp [xI_seq, xI_region, xI_ret, regA, regOps, runOps, opStep, wantedA, opA, evo, evos, calleeA, lk, nif_eq, putE, paramsE, valS, val2, keepE, restrict, finA, resA, binA, binInt, ofConst, ofConst1, loadA, TK.isAgg, asVar, unA, builtinA, lenOpA, lenA, ileb_cast, ileb_eq, ieqb_dec, indexAddrA, inB_dec, evPairs, storeA, AV.cellsOf, pairsOf, xI_nil, binBool, gcE, evOpt, xI_block, xI_loopH, xI_condM, xI_exitM, xI_skip, xI_blk, exitA, ty2, ty3, ty33, eK45_0_0]
  rw [cI_0 fn45 rfl md45]
  rw [fi45] at h1 ⊢
  simp [xI_seq, xI_region, xI_ret, regA, regOps, runOps, opStep, wantedA, opA, evo, evos, calleeA, lk, nif_eq, putE, paramsE, valS, val2, keepE, restrict, finA, resA, binA, binInt, ofConst, ofConst1, loadA, TK.isAgg, asVar, unA, builtinA, lenOpA, lenA, ileb_cast, ileb_eq, ieqb_dec, indexAddrA, inB_dec, evPairs, storeA, AV.cellsOf, pairsOf, xI_nil, binBool, gcE, evOpt, xI_block, xI_loopH, xI_condM, xI_exitM, xI_skip, xI_blk, exitA, ty2, ty3, ty33, eK45_0_0]
  exact h1

noncomputable def b46 : Code := Try.f46.body.getD .skip
noncomputable def B46_0 : Code := (bodyC (bodyC (sndC (fstC (sndC b46)))))
noncomputable def K46_0 : List It := .lp B46_0 :: .blk 0 :: .code (sndC (sndC b46)) :: []
theorem xl46_0 {fi : FI} {env : Env} {σ : St} : exI TT fi K46_0 env σ = exI TT fi (.code B46_0 :: K46_0) env σ := by unfold K46_0; exact xI_lp
noncomputable def R46_0_0 : List It := .code (sndC (sndC b46)) :: []
theorem eK46_0_0 : exitA 0 K46_0 = some R46_0_0 := rfl
theorem l46 (n k0 : Nat) (hs : n < 2000000) (hk0 : k0 < 2000000) (σ : St) : ∀ (m i : Nat), n = i + m →
    exI TT (FI.of Try.f46 (TT.an 46)) K46_0 [(0, .lst n (ints (iotaF k0 n))), (1, .int .i64 (k0 + i : Nat)), (5, .int .i64 i)] σ = some (.int .i64 (k0 + n : Nat), σ) := by
  intro m
  induction m with
  | zero =>
    intro i hn
    obtain rfl : n = i := by omega
    rw [fi46]
    rw [xl46_0]
    simp only [B46_0, b46, Try.f46, Option.getD, fstC, sndC, bodyC, thnC, elsC]
    simp [xI_seq, xI_region, xI_ret, regA, regOps, runOps, opStep, wantedA, opA, evo, evos, calleeA, lk, nif_eq, putE, paramsE, valS, val2, keepE, restrict, finA, resA, binA, binInt, ofConst, ofConst1, loadA, TK.isAgg, asVar, unA, builtinA, lenOpA, lenA, ileb_cast, ileb_eq, ieqb_dec, indexAddrA, inB_dec, evPairs, storeA, AV.cellsOf, pairsOf, xI_nil, binBool, gcE, evOpt, xI_block, xI_loopH, xI_condM, xI_exitM, xI_skip, xI_blk, exitA, ty2, ty3, ty33, eK46_0_0]
    simp only [R46_0_0, b46, Try.f46, Option.getD, fstC, sndC, bodyC, thnC, elsC]
    simp [xI_seq, xI_region, xI_ret, regA, regOps, runOps, opStep, wantedA, opA, evo, evos, calleeA, lk, nif_eq, putE, paramsE, valS, val2, keepE, restrict, finA, resA, binA, binInt, ofConst, ofConst1, loadA, TK.isAgg, asVar, unA, builtinA, lenOpA, lenA, ileb_cast, ileb_eq, ieqb_dec, indexAddrA, inB_dec, evPairs, storeA, AV.cellsOf, pairsOf, xI_nil, binBool, gcE, evOpt, xI_block, xI_loopH, xI_condM, xI_exitM, xI_skip, xI_blk, exitA, ty2, ty3, ty33, eK46_0_0]
  | succ m ih =>
    intro i hn
    have h1 := ih (i + 1) (by omega)
    have hg : (iotaF (k0 : Int) n)[i]? = some ((k0 : Int) + (i : Int)) := iotaF_get _ _ _ (by omega)
    have hlt : ¬ n ≤ i := by omega
    have hlt2 : i < n := by omega
    have hw := wrapS (n := i) (by omega)
    have hw2 : wrapA .i64 ((k0 : Int) + i + 1) = (k0 : Int) + i + 1 := wrapA_id (by omega) (by omega)
    rw [fi46] at h1 ⊢
    rw [xl46_0]
    simp only [B46_0, b46, Try.f46, Option.getD, fstC, sndC, bodyC, thnC, elsC]
    simp [xI_seq, xI_region, xI_ret, regA, regOps, runOps, opStep, wantedA, opA, evo, evos, calleeA, lk, nif_eq, putE, paramsE, valS, val2, keepE, restrict, finA, resA, binA, binInt, ofConst, ofConst1, loadA, TK.isAgg, asVar, unA, builtinA, lenOpA, lenA, ileb_cast, ileb_eq, ieqb_dec, indexAddrA, inB_dec, evPairs, storeA, AV.cellsOf, pairsOf, xI_nil, binBool, gcE, evOpt, xI_block, xI_loopH, xI_condM, xI_exitM, xI_skip, xI_blk, exitA, ty2, ty3, ty33, eK46_0_0, hw, hw2, hlt, hlt2, lst_read hg]
    rw [show ((k0 + (i + 1) : Nat) : Int) = (k0 : Int) + i + 1 by omega] at h1
    simpa using h1
theorem v46 (n k : Nat) (hs : n < 2000000) (hk : k < 2000000) : FnV TT 46 [.lst n (ints (iotaF k n)), .int .i64 k] (.int .i64 (k + n : Nat)) := by
  refine FnV.mk fn46 rfl md46 ⟨⟨[], 0⟩, ?_⟩ (fun _ => rfl) rfl
  rw [← l46 n k hs hk ⟨[], 0⟩ n 0 (by omega)]
  rw [fi46]
  simp [xI_seq, xI_region, xI_ret, regA, regOps, runOps, opStep, wantedA, opA, evo, evos, calleeA, lk, nif_eq, putE, paramsE, valS, val2, keepE, restrict, finA, resA, binA, binInt, ofConst, ofConst1, loadA, TK.isAgg, asVar, unA, builtinA, lenOpA, lenA, ileb_cast, ileb_eq, ieqb_dec, indexAddrA, inB_dec, evPairs, storeA, AV.cellsOf, pairsOf, xI_nil, binBool, gcE, evOpt, xI_block, xI_loopH, xI_condM, xI_exitM, xI_skip, xI_blk, exitA, ty2, ty3, ty33, eK46_0_0]
  rfl
theorem v46n (k : Nat) : FnV TT 46 [.nilS, .int .i64 k] (.int .i64 k) := by
  refine FnV.mk fn46 rfl md46 ⟨⟨[], 0⟩, ?_⟩ (fun _ => rfl) rfl
  have h1 : exI TT (FI.of Try.f46 (TT.an 46)) K46_0 [(0, .nilS), (1, .int .i64 k), (5, .int .i64 0)] ⟨[], 0⟩ = some (.int .i64 k, ⟨[], 0⟩) := by
    rw [fi46]
    rw [xl46_0]
    simp only [B46_0, b46, Try.f46, Option.getD, fstC, sndC, bodyC, thnC, elsC]
    simp [xI_seq, xI_region, xI_ret, regA, regOps, runOps, opStep, wantedA, opA, evo, evos, calleeA, lk, nif_eq, putE, paramsE, valS, val2, keepE, restrict, finA, resA, binA, binInt, ofConst, ofConst1, loadA, TK.isAgg, asVar, unA, builtinA, lenOpA, lenA, ileb_cast, ileb_eq, ieqb_dec, indexAddrA, inB_dec, evPairs, storeA, AV.cellsOf, pairsOf, xI_nil, binBool, gcE, evOpt, xI_block, xI_loopH, xI_condM, xI_exitM, xI_skip, xI_blk, exitA, ty2, ty3, ty33, eK46_0_0]
    simp only [R46_0_0, b46, Try.f46, Option.getD, fstC, sndC, bodyC, thnC, elsC]
    simp [xI_seq, xI_region, xI_ret, regA, regOps, runOps, opStep, wantedA, opA, evo, evos, calleeA, lk, nif_eq, putE, paramsE, valS, val2, keepE, restrict, finA, resA, binA, binInt, ofConst, ofConst1, loadA, TK.isAgg, asVar, unA, builtinA, lenOpA, lenA, ileb_cast, ileb_eq, ieqb_dec, indexAddrA, inB_dec, evPairs, storeA, AV.cellsOf, pairsOf, xI_nil, binBool, gcE, evOpt, xI_block, xI_loopH, xI_condM, xI_exitM, xI_skip, xI_blk, exitA, ty2, ty3, ty33, eK46_0_0]
  rw [fi46] at h1 ⊢
  simp [xI_seq, xI_region, xI_ret, regA, regOps, runOps, opStep, wantedA, opA, evo, evos, calleeA, lk, nif_eq, putE, paramsE, valS, val2, keepE, restrict, finA, resA, binA, binInt, ofConst, ofConst1, loadA, TK.isAgg, asVar, unA, builtinA, lenOpA, lenA, ileb_cast, ileb_eq, ieqb_dec, indexAddrA, inB_dec, evPairs, storeA, AV.cellsOf, pairsOf, xI_nil, binBool, gcE, evOpt, xI_block, xI_loopH, xI_condM, xI_exitM, xI_skip, xI_blk, exitA, ty2, ty3, ty33, eK46_0_0]
  exact h1

def allR (l : List Int) (lo hi : Int) : Bool := l.all fun n => inR n lo hi
theorem c126 (n lo hi : Int) (σ : St) (p q : Nat) (x y : Blk) (hp : σ.get p = some x) (hx : x.cells = [.int .i64 lo]) (hq : σ.get q = some y) (hy : y.cells = [.int .i64 hi]) : callI TT 126 [.int .i64 n, .ptr p 0, .ptr q 0] σ = some (.bool (!inR n lo hi), σ) := by
  rw [cI_0 fn126 rfl md126, fi126]
  simp [xI_seq, xI_region, xI_ret, regA, regOps, runOps, opStep, wantedA, opA, evo, evos, calleeA, lk, nif_eq, putE, paramsE, valS, val2, keepE, restrict, finA, resA, binA, binInt, ofConst, ofConst1, loadA, TK.isAgg, asVar, unA, builtinA, lenOpA, lenA, ileb_cast, ileb_eq, ieqb_dec, indexAddrA, inB_dec, evPairs, storeA, AV.cellsOf, pairsOf, xI_nil, binBool, gcE, evOpt, xI_block, xI_loopH, xI_condM, xI_exitM, xI_skip, xI_blk, exitA, ty2, ty4, c80, cellsAt, hp, hx, hq, hy, getCells, takeN, dropN]

noncomputable def b143 : Code := Try.f143.body.getD .skip
noncomputable def B143_0 : Code := (bodyC (bodyC (sndC (fstC (sndC b143)))))
noncomputable def K143_0 : List It := .lp B143_0 :: .blk 0 :: .code (sndC (sndC b143)) :: []
theorem xl143_0 {fi : FI} {env : Env} {σ : St} : exI TT fi K143_0 env σ = exI TT fi (.code B143_0 :: K143_0) env σ := by unfold K143_0; exact xI_lp
noncomputable def R143_0_0 : List It := .code (sndC (sndC b143)) :: []
theorem eK143_0_0 : exitA 0 K143_0 = some R143_0_0 := rfl
theorem l143 (l : List Int) (len : Nat) (hlen : len = l.length) (hs : len < 3000000) (lo hi : Int) (σ : St) (p q : Nat) (x y : Blk) (hp : σ.get p = some x) (hx : x.cells = [.int .i64 lo]) (hq : σ.get q = some y) (hy : y.cells = [.int .i64 hi]) : ∀ (suf pre : List Int), l = pre ++ suf →
    ∃ r : Int, exI TT (FI.of Try.f143 (TT.an 143)) K143_0 [(0, .lst len (ints l)), (1, .fn 126 [] [.ptr p 0, .ptr q 0]), (7, .int .i64 len), (8, .int .i64 pre.length)] σ = some (.int .i64 r, σ) ∧ decide (0 ≤ r) = !allR suf lo hi := by
  intro suf
  induction suf with
  | nil =>
    intro pre hl
    refine ⟨-1, ?_, by simp [allR]⟩
    have hl : len = pre.length := by rw [hlen, hl]; simp
    subst hl
    rw [fi143]
    rw [xl143_0]
    simp only [B143_0, b143, Try.f143, Option.getD, fstC, sndC, bodyC, thnC, elsC]
    simp [xI_seq, xI_region, xI_ret, regA, regOps, runOps, opStep, wantedA, opA, evo, evos, calleeA, lk, nif_eq, putE, paramsE, valS, val2, keepE, restrict, finA, resA, binA, binInt, ofConst, ofConst1, loadA, TK.isAgg, asVar, unA, builtinA, lenOpA, lenA, ileb_cast, ileb_eq, ieqb_dec, indexAddrA, inB_dec, evPairs, storeA, AV.cellsOf, pairsOf, xI_nil, binBool, gcE, evOpt, xI_block, xI_loopH, xI_condM, xI_exitM, xI_skip, xI_blk, exitA, ty2, ty3, ty33, eK143_0_0]
    simp only [R143_0_0, b143, Try.f143, Option.getD, fstC, sndC, bodyC, thnC, elsC]
    simp [xI_seq, xI_region, xI_ret, regA, regOps, runOps, opStep, wantedA, opA, evo, evos, calleeA, lk, nif_eq, putE, paramsE, valS, val2, keepE, restrict, finA, resA, binA, binInt, ofConst, ofConst1, loadA, TK.isAgg, asVar, unA, builtinA, lenOpA, lenA, ileb_cast, ileb_eq, ieqb_dec, indexAddrA, inB_dec, evPairs, storeA, AV.cellsOf, pairsOf, xI_nil, binBool, gcE, evOpt, xI_block, xI_loopH, xI_condM, xI_exitM, xI_skip, xI_blk, exitA, ty2, ty3, ty33, eK143_0_0]
  | cons n suf ih =>
    intro pre hl
    have hll : len = pre.length + (suf.length + 1) := by rw [hlen, hl]; simp
    have hg : l[pre.length]? = some n := by simp [hl]
    obtain ⟨r, h1, h2⟩ := ih (pre ++ [n]) (by simp [hl])
    have hlt : ¬ len ≤ pre.length := by omega
    have hlt2 : pre.length < len := by omega
    have hw := wrapS (n := pre.length) (by omega)
    have hc := c126 n lo hi σ p q x y hp hx hq hy
    simp only [List.length_append, List.length_singleton] at h1
    cases hin : inR n lo hi with
    | true =>
      rw [hin] at hc
      refine ⟨r, ?_, by rw [h2]; simp [allR, hin]⟩
      rw [fi143] at h1 ⊢
      rw [xl143_0]
      simp only [B143_0, b143, Try.f143, Option.getD, fstC, sndC, bodyC, thnC, elsC]
      simp [xI_seq, xI_region, xI_ret, regA, regOps, runOps, opStep, wantedA, opA, evo, evos, calleeA, lk, nif_eq, putE, paramsE, valS, val2, keepE, restrict, finA, resA, binA, binInt, ofConst, ofConst1, loadA, TK.isAgg, asVar, unA, builtinA, lenOpA, lenA, ileb_cast, ileb_eq, ieqb_dec, indexAddrA, inB_dec, evPairs, storeA, AV.cellsOf, pairsOf, xI_nil, binBool, gcE, evOpt, xI_block, xI_loopH, xI_condM, xI_exitM, xI_skip, xI_blk, exitA, ty2, ty3, ty33, eK143_0_0, hw, hlt, hlt2, lst_read hg, hc]
      simpa using h1
    | false =>
      rw [hin] at hc
      refine ⟨pre.length, ?_, by simp [allR, hin]⟩
      rw [fi143]
      rw [xl143_0]
      simp only [B143_0, b143, Try.f143, Option.getD, fstC, sndC, bodyC, thnC, elsC]
      simp [xI_seq, xI_region, xI_ret, regA, regOps, runOps, opStep, wantedA, opA, evo, evos, calleeA, lk, nif_eq, putE, paramsE, valS, val2, keepE, restrict, finA, resA, binA, binInt, ofConst, ofConst1, loadA, TK.isAgg, asVar, unA, builtinA, lenOpA, lenA, ileb_cast, ileb_eq, ieqb_dec, indexAddrA, inB_dec, evPairs, storeA, AV.cellsOf, pairsOf, xI_nil, binBool, gcE, evOpt, xI_block, xI_loopH, xI_condM, xI_exitM, xI_skip, xI_blk, exitA, ty2, ty3, ty33, eK143_0_0, hw, hlt, hlt2, lst_read hg, hc]

theorem c125 (l : List Int) (len : Nat) (hlen : len = l.length) (hs : len < 3000000) (lo hi : Int) (σ : St) (p q : Nat) (x y : Blk) (hp : σ.get p = some x) (hx : x.cells = [.int .i64 lo]) (hq : σ.get q = some y) (hy : y.cells = [.int .i64 hi]) :
    callI TT 125 [.lst len (ints l), .fn 126 [] [.ptr p 0, .ptr q 0]] σ = some (.bool (!allR l lo hi), σ) := by
  obtain ⟨r, h1, h2⟩ := l143 l len hlen hs lo hi σ p q x y hp hx hq hy l [] rfl
  have hc : callI TT 143 [.lst len (ints l), .fn 126 [] [.ptr p 0, .ptr q 0]] σ = some (.int .i64 r, σ) := by
    rw [cI_0 fn143 rfl md143, ← h1, fi143]
    simp [xI_seq, xI_region, xI_ret, regA, regOps, runOps, opStep, wantedA, opA, evo, evos, calleeA, lk, nif_eq, putE, paramsE, valS, val2, keepE, restrict, finA, resA, binA, binInt, ofConst, ofConst1, loadA, TK.isAgg, asVar, unA, builtinA, lenOpA, lenA, ileb_cast, ileb_eq, ieqb_dec, indexAddrA, inB_dec, evPairs, storeA, AV.cellsOf, pairsOf, xI_nil, binBool, gcE, evOpt, xI_block, xI_loopH, xI_condM, xI_exitM, xI_skip, xI_blk, exitA, ty2, ty3, ty33, eK143_0_0]
    rfl
  rw [cI_0 fn125 rfl md125, fi125]
  simp [xI_seq, xI_region, xI_ret, regA, regOps, runOps, opStep, wantedA, opA, evo, evos, calleeA, lk, nif_eq, putE, paramsE, valS, val2, keepE, restrict, finA, resA, binA, binInt, ofConst, ofConst1, loadA, TK.isAgg, asVar, unA, builtinA, lenOpA, lenA, ileb_cast, ileb_eq, ieqb_dec, indexAddrA, inB_dec, evPairs, storeA, AV.cellsOf, pairsOf, xI_nil, binBool, gcE, evOpt, xI_block, xI_loopH, xI_condM, xI_exitM, xI_skip, xI_blk, exitA, ty3, hc, h2]

theorem v79 (l : List Int) (len : Nat) (hlen : len = l.length) (hs : len < 3000000) (lo hi : Int) : FnV TT 79 [.lst len (ints l), .int .i64 lo, .int .i64 hi] (.bool (allR l lo hi)) := by
  have h := c125 l len hlen hs lo hi (((⟨[], 0⟩ : St).push ⟨[.int .i64 lo], 1, false⟩).push ⟨[.int .i64 hi], 1, false⟩) 0 1 _ _ rfl rfl rfl rfl
  refine FnV.mk fn79 rfl md79 ⟨((⟨[], 0⟩ : St).push ⟨[.int .i64 lo], 1, false⟩).push ⟨[.int .i64 hi], 1, false⟩, ?_⟩ (fun _ => rfl) rfl
  rw [fi79]
  simp [xI_seq, xI_region, xI_ret, regA, regOps, runOps, opStep, wantedA, opA, evo, evos, calleeA, lk, nif_eq, putE, paramsE, valS, val2, keepE, restrict, finA, resA, binA, binInt, ofConst, ofConst1, loadA, TK.isAgg, asVar, unA, builtinA, lenOpA, lenA, ileb_cast, ileb_eq, ieqb_dec, indexAddrA, inB_dec, evPairs, storeA, AV.cellsOf, pairsOf, xI_nil, binBool, gcE, evOpt, xI_block, xI_loopH, xI_condM, xI_exitM, xI_skip, xI_blk, exitA, ty2, ty4, h, allOne, AV.one, n_push]

theorem inR_iff {n lo hi : Int} : inR n lo hi = true ↔ lo ≤ n ∧ n ≤ hi := by simp [inR]
theorem allR_spec {l : List Int} {lo hi : Int} (h : allR l lo hi = true) : ∀ c ∈ l, lo ≤ c ∧ c ≤ hi := fun c hc => inR_iff.1 (List.all_eq_true.1 h c hc)
end Go.Proofs.Ytonnbgjbohbibaa
