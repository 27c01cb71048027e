/- Contracts: orders, ways to choose, chances after riffles. Nothing is claimed here; no condition. -/
import Derived.Test.YtihoeimlkbjgmaaQc
import Derived.Test.YtihoeimlkbjgmaaXf
set_option linter.unusedSimpArgs false
set_option linter.unusedVariables false
namespace Go.Proofs.Ytihoeimlkbjgmaa
open Go Go.Abs Go.Nm
attribute [local simp] xI_seq xI_region xI_ret regA regOps runOps opStep wantedA opA evo evos calleeA lk nif_eq putE paramsE valS val2 keepE restrict finA resA binA binInt ofConst ofConst1 loadA TK.isAgg asVar unA builtinA lenOpA lenA indexAddrA evPairs storeA AV.cellsOf pairsOf xI_nil binBool gcE evOpt runTr pairsOk pairOk sameVal AV.eqv lastOf lstAt eqvs boundA indexA regF twoOf prsOf memI runTrF selF runTr2 freshOp scals AV.scal xI_block xI_loopH xI_condM xI_exitM xI_skip xI_blk exitA List.getElem?_cons_zero List.getElem?_cons_succ List.getElem?_toArray List.getElem?_nil ileb_t ileb_f ieqb_t ieqb_f inB_t wrapA_id lp_read ieqb_self Nat.blt_eq cond_true cond_false ty2 ty3 ty4 ty22 ty25 ty41 ty48 ty58 ty76 ty90 ty92 ty97 ty99 ty101 ty104
def inR (n lo hi : Int) : Bool := decide (lo ≤ n) && decide (n ≤ hi)
theorem bs1 (σ : St) (x : Int) : buildSliceA TT σ 48 1 [(0, .int .i64 x)] = some (.sl σ.n 0 1 1, σ.push ⟨[.int .i64 x], 1, false⟩) := build_one ty48 ty2
theorem mkI (σ : St) (n : Nat) (hn : n ≤ 17592186044416) : makeSliceA TT σ 48 (.int .i64 n) (.int .i64 n) = some (.sl σ.n 0 n n, σ.push ⟨ints (List.replicate n 0), 1, false⟩) := make_ints ty48 ty2 hn
def iotaF (k : Int) : Nat → List Int
  | 0 => []
  | m + 1 => k :: iotaF (k + 1) m
theorem iotaF_get : ∀ (m : Nat) (k : Int) (i : Nat), i < m → (iotaF k m)[i]? = some (k + (i : Int))
  | 0, _, _, h => by omega
  | m + 1, k, 0, _ => by simp [iotaF]
  | m + 1, k, i + 1, h => by simp only [iotaF, List.getElem?_cons_succ]; rw [iotaF_get m (k + 1) i (by omega)]; congr 1; omega
theorem iotaF_length : ∀ (m : Nat) (k : Int), (iotaF k m).length = m
  | 0, _ => rfl
  | m + 1, k => by simp [iotaF, iotaF_length m]

theorem c63 (n lo hi : Int) (σ : St) : callI TT 63 [.int .i64 n, .int .i64 lo, .int .i64 hi] σ = some (.bool (inR n lo hi), σ) := by
  refine (FnV.mk (args' := [.int .i64 n, .int .i64 lo, .int .i64 hi]) fn63 rfl md63 ⟨⟨[], 0⟩, ?_⟩ (fun _ => rfl) rfl) σ _ rfl
  rw [fi63]
  by_cases h1 : lo ≤ n <;> simp [xI_seq, xI_region, xI_ret, regA, regOps, runOps, opStep, wantedA, opA, evo, evos, calleeA, lk, nif_eq, putE, paramsE, valS, val2, keepE, restrict, finA, resA, binA, binInt, ofConst, ofConst1, loadA, TK.isAgg, asVar, unA, builtinA, lenOpA, lenA, ileb_cast, ileb_eq, ieqb_dec, indexAddrA, inB_dec, evPairs, storeA, AV.cellsOf, pairsOf, xI_nil, binBool, gcE, evOpt, inR, h1]

theorem c92 (n lo hi : Int) (σ : St) : callI TT 92 [.int .i64 n, .int .i64 lo, .int .i64 hi] σ = some (.bool (inR n lo hi), σ) := by
  refine (FnV.mk (args' := [.int .i64 n, .int .i64 lo, .int .i64 hi]) fn92 rfl md92 ⟨⟨[], 0⟩, ?_⟩ (fun _ => rfl) rfl) σ _ rfl
  rw [fi92]
  by_cases h1 : lo ≤ n <;> simp [xI_seq, xI_region, xI_ret, regA, regOps, runOps, opStep, wantedA, opA, evo, evos, calleeA, lk, nif_eq, putE, paramsE, valS, val2, keepE, restrict, finA, resA, binA, binInt, ofConst, ofConst1, loadA, TK.isAgg, asVar, unA, builtinA, lenOpA, lenA, ileb_cast, ileb_eq, ieqb_dec, indexAddrA, inB_dec, evPairs, storeA, AV.cellsOf, pairsOf, xI_nil, binBool, gcE, evOpt, inR, h1]

theorem v98 (l : List Int) (n : Nat) : FnV TT 98 [.lst n (ints l)] (.int .i64 n) := by
  refine FnV.mk fn98 rfl md98 ⟨⟨[], 0⟩, ?_⟩ (fun _ => rfl) rfl
  rw [fi98]
  simp [xI_seq, xI_region, xI_ret, regA, regOps, runOps, opStep, wantedA, opA, evo, evos, calleeA, lk, nif_eq, putE, paramsE, valS, val2, keepE, restrict, finA, resA, binA, binInt, ofConst, ofConst1, loadA, TK.isAgg, asVar, unA, builtinA, lenOpA, lenA, ileb_cast, ileb_eq, ieqb_dec, indexAddrA, inB_dec, evPairs, storeA, AV.cellsOf, pairsOf, xI_nil, binBool, gcE, evOpt, ty2, ty48]
noncomputable def b34 : Code := Try.f34.body.getD .skip
noncomputable def B34_0 : Code := (bodyC (bodyC (sndC (fstC (sndC (sndC b34))))))
noncomputable def K34_0 : List It := .lp B34_0 :: .blk 0 :: .code (sndC (sndC (sndC b34))) :: []
theorem xl34_0 {fi : FI} {env : Env} {σ : St} : exI TT fi K34_0 env σ = exI TT fi (.code B34_0 :: K34_0) env σ := by unfold K34_0; exact xI_lp
noncomputable def R34_0_0 : List It := .code (sndC (sndC (sndC b34))) :: []
theorem eK34_0_0 : exitA 0 K34_0 = some R34_0_0 := rfl
theorem l34 (l : List Int) (len : Nat) (hlen : len = l.length) (hs : len < 1000000000000) : ∀ (suf pre : List Int) (σ : St) (b : Nat) (z : List Int), l = pre ++ suf → z.length = suf.length → Row σ b (pre ++ z) →
    ∃ σ', exI TT (FI.of Try.f34 (TT.an 34)) K34_0 [(0, .lst len (ints l)), (3, .sl b 0 len len), (4, .int .i64 pre.length)] σ = some (.sl b 0 len len, σ') ∧ Row σ' b l := by
  intro suf
  induction suf with
  | nil =>
    intro pre σ b z hl hz hr
    have hz : z = [] := by simpa using hz
    subst hz
    have hl : l = pre := by simpa using hl
    subst hl
    refine ⟨σ, ?_, by simpa using hr⟩
    subst hlen
    rw [fi34]
    rw [xl34_0]
    simp only [B34_0, b34, Try.f34, Option.getD, fstC, sndC, bodyC, thnC, elsC]
    simp [xI_seq, xI_region, xI_ret, regA, regOps, runOps, opStep, wantedA, opA, evo, evos, calleeA, lk, nif_eq, putE, paramsE, valS, val2, keepE, restrict, finA, resA, binA, binInt, ofConst, ofConst1, loadA, TK.isAgg, asVar, unA, builtinA, lenOpA, lenA, ileb_cast, ileb_eq, ieqb_dec, indexAddrA, inB_dec, evPairs, storeA, AV.cellsOf, pairsOf, xI_nil, binBool, gcE, evOpt, xI_block, xI_loopH, xI_condM, xI_exitM, xI_skip, xI_blk, exitA, ty2, ty3, ty48, eK34_0_0]
    simp only [R34_0_0, b34, Try.f34, Option.getD, fstC, sndC, bodyC, thnC, elsC]
    simp [xI_seq, xI_region, xI_ret, regA, regOps, runOps, opStep, wantedA, opA, evo, evos, calleeA, lk, nif_eq, putE, paramsE, valS, val2, keepE, restrict, finA, resA, binA, binInt, ofConst, ofConst1, loadA, TK.isAgg, asVar, unA, builtinA, lenOpA, lenA, ileb_cast, ileb_eq, ieqb_dec, indexAddrA, inB_dec, evPairs, storeA, AV.cellsOf, pairsOf, xI_nil, binBool, gcE, evOpt, xI_block, xI_loopH, xI_condM, xI_exitM, xI_skip, xI_blk, exitA, ty2, ty3, ty48, eK34_0_0]
  | cons x suf ih =>
    intro pre σ b z hl hz hr
    obtain ⟨y, z, rfl⟩ : ∃ y z', z = y :: z' := by cases z with | nil => simp at hz | cons y z => exact ⟨y, z, rfl⟩
    have hg : l[pre.length]? = some x := by simp [hl]
    have hll : len = pre.length + (suf.length + 1) := by rw [hlen, hl]; simp
    obtain ⟨σ1, hst, hr1, hn1, _⟩ := store_row (i := pre.length) (x := x) hr (by simp)
    rw [set_app] at hr1
    obtain ⟨σ', h1, h2⟩ := ih (pre ++ [x]) σ1 b z (by simp [hl]) (by simpa using hz) (by simpa using hr1)
    refine ⟨σ', ?_, h2⟩
    have hlt : ¬ len ≤ pre.length := by omega
    have hlt2 : pre.length < len := by omega
    have hw := wrapS (n := pre.length) (by omega)
    rw [fi34] at h1 ⊢
    rw [xl34_0]
    simp only [B34_0, b34, Try.f34, Option.getD, fstC, sndC, bodyC, thnC, elsC]
    simp [xI_seq, xI_region, xI_ret, regA, regOps, runOps, opStep, wantedA, opA, evo, evos, calleeA, lk, nif_eq, putE, paramsE, valS, val2, keepE, restrict, finA, resA, binA, binInt, ofConst, ofConst1, loadA, TK.isAgg, asVar, unA, builtinA, lenOpA, lenA, ileb_cast, ileb_eq, ieqb_dec, indexAddrA, inB_dec, evPairs, storeA, AV.cellsOf, pairsOf, xI_nil, binBool, gcE, evOpt, xI_block, xI_loopH, xI_condM, xI_exitM, xI_skip, xI_blk, exitA, ty2, ty3, ty48, eK34_0_0, hw, hlt, hlt2, lst_read hg, hst]
    simpa using h1
theorem s34 (l : List Int) (len : Nat) (hlen : len = l.length) (hs : len < 1000000000000) : FnF TT 34 [.lst len (ints l)] (.lst len (ints l)) := by
  obtain ⟨σ', h1, h2⟩ := l34 l len hlen hs l [] ((⟨[], 0⟩ : St).push ⟨ints (List.replicate len 0), 1, false⟩) 0 (List.replicate len 0) rfl (by simp [hlen]) Row.push
  refine FnF.mk fn34 rfl md34 ⟨σ', .sl 0 0 len len, ?_, h2.frz (d := 4) hlen (Nat.le_refl _)⟩
  rw [← h1]
  have hm := mkI ⟨[], 0⟩ len (by omega)
  rw [fi34]
  simp [xI_seq, xI_region, xI_ret, regA, regOps, runOps, opStep, wantedA, opA, evo, evos, calleeA, lk, nif_eq, putE, paramsE, valS, val2, keepE, restrict, finA, resA, binA, binInt, ofConst, ofConst1, loadA, TK.isAgg, asVar, unA, builtinA, lenOpA, lenA, ileb_cast, ileb_eq, ieqb_dec, indexAddrA, inB_dec, evPairs, storeA, AV.cellsOf, pairsOf, xI_nil, binBool, gcE, evOpt, xI_block, xI_loopH, xI_condM, xI_exitM, xI_skip, xI_blk, exitA, ty2, ty3, ty48, eK34_0_0, hm]
  rfl

noncomputable def b36 : Code := Try.f36.body.getD .skip
noncomputable def B36_0 : Code := (bodyC (bodyC (sndC (fstC (sndC (sndC b36))))))
noncomputable def K36_0 : List It := .lp B36_0 :: .blk 0 :: .code (sndC (sndC (sndC b36))) :: []
theorem xl36_0 {fi : FI} {env : Env} {σ : St} : exI TT fi K36_0 env σ = exI TT fi (.code B36_0 :: K36_0) env σ := by unfold K36_0; exact xI_lp
noncomputable def R36_0_0 : List It := .code (sndC (sndC (sndC b36))) :: []
theorem eK36_0_0 : exitA 0 K36_0 = some R36_0_0 := rfl
theorem l36 (a b : List Int) (len : Nat) (hlen : len = a.length) (hlen2 : len = b.length) (hs : len < 1000000000000) (σ : St) : ∀ (suf suf2 pre pre2 : List Int), a = pre ++ suf → b = pre2 ++ suf2 → pre.length = pre2.length →
    exI TT (FI.of Try.f36 (TT.an 36)) K36_0 [(0, .lst len (ints a)), (1, .lst len (ints b)), (5, .int .i64 pre.length)] σ = some (.bool (decide (suf = suf2)), σ) := by
  intro suf
  induction suf with
  | nil =>
    intro suf2 pre pre2 ha hb hp
    have h0 : suf2 = [] := by
      have := congrArg List.length ha; have := congrArg List.length hb; simp at *; cases suf2 with | nil => rfl | cons y z => simp at *; omega
    subst h0
    have hl : len = pre.length := by rw [hlen, ha]; simp
    subst hl
    rw [fi36]
    rw [xl36_0]
    simp only [B36_0, b36, Try.f36, Option.getD, fstC, sndC, bodyC, thnC, elsC]
    simp [xI_seq, xI_region, xI_ret, regA, regOps, runOps, opStep, wantedA, opA, evo, evos, calleeA, lk, nif_eq, putE, paramsE, valS, val2, keepE, restrict, finA, resA, binA, binInt, ofConst, ofConst1, loadA, TK.isAgg, asVar, unA, builtinA, lenOpA, lenA, ileb_cast, ileb_eq, ieqb_dec, indexAddrA, inB_dec, evPairs, storeA, AV.cellsOf, pairsOf, xI_nil, binBool, gcE, evOpt, xI_block, xI_loopH, xI_condM, xI_exitM, xI_skip, xI_blk, exitA, ty2, ty3, ty48, eK36_0_0]
    simp only [R36_0_0, b36, Try.f36, Option.getD, fstC, sndC, bodyC, thnC, elsC]
    simp [xI_seq, xI_region, xI_ret, regA, regOps, runOps, opStep, wantedA, opA, evo, evos, calleeA, lk, nif_eq, putE, paramsE, valS, val2, keepE, restrict, finA, resA, binA, binInt, ofConst, ofConst1, loadA, TK.isAgg, asVar, unA, builtinA, lenOpA, lenA, ileb_cast, ileb_eq, ieqb_dec, indexAddrA, inB_dec, evPairs, storeA, AV.cellsOf, pairsOf, xI_nil, binBool, gcE, evOpt, xI_block, xI_loopH, xI_condM, xI_exitM, xI_skip, xI_blk, exitA, ty2, ty3, ty48, eK36_0_0]
  | cons x suf ih =>
    intro suf2 pre pre2 ha hb hp
    obtain ⟨y, suf2, rfl⟩ : ∃ y z', suf2 = y :: z' := by
      cases suf2 with
      | nil => have := congrArg List.length ha; have := congrArg List.length hb; simp at *; omega
      | cons y z => exact ⟨y, z, rfl⟩
    have hg : a[pre.length]? = some x := by simp [ha]
    have hg2 : b[pre.length]? = some y := by simp [hb, hp]
    have hll : len = pre.length + (suf.length + 1) := by rw [hlen, ha]; simp
    have h1 := ih suf2 (pre ++ [x]) (pre2 ++ [y]) (by simp [ha]) (by simp [hb]) (by simp [hp])
    have hlt : ¬ len ≤ pre.length := by omega
    have hlt2 : pre.length < len := by omega
    have hw := wrapS (n := pre.length) (by omega)
    by_cases hxy : x = y
    · subst hxy
      rw [fi36] at h1 ⊢
      rw [xl36_0]
      simp only [B36_0, b36, Try.f36, Option.getD, fstC, sndC, bodyC, thnC, elsC]
      simp [xI_seq, xI_region, xI_ret, regA, regOps, runOps, opStep, wantedA, opA, evo, evos, calleeA, lk, nif_eq, putE, paramsE, valS, val2, keepE, restrict, finA, resA, binA, binInt, ofConst, ofConst1, loadA, TK.isAgg, asVar, unA, builtinA, lenOpA, lenA, ileb_cast, ileb_eq, ieqb_dec, indexAddrA, inB_dec, evPairs, storeA, AV.cellsOf, pairsOf, xI_nil, binBool, gcE, evOpt, xI_block, xI_loopH, xI_condM, xI_exitM, xI_skip, xI_blk, exitA, ty2, ty3, ty48, eK36_0_0, hw, hlt, hlt2, lst_read hg, lst_read hg2]
      simpa using h1
    · rw [fi36]
      rw [xl36_0]
      simp only [B36_0, b36, Try.f36, Option.getD, fstC, sndC, bodyC, thnC, elsC]
      simp [xI_seq, xI_region, xI_ret, regA, regOps, runOps, opStep, wantedA, opA, evo, evos, calleeA, lk, nif_eq, putE, paramsE, valS, val2, keepE, restrict, finA, resA, binA, binInt, ofConst, ofConst1, loadA, TK.isAgg, asVar, unA, builtinA, lenOpA, lenA, ileb_cast, ileb_eq, ieqb_dec, indexAddrA, inB_dec, evPairs, storeA, AV.cellsOf, pairsOf, xI_nil, binBool, gcE, evOpt, xI_block, xI_loopH, xI_condM, xI_exitM, xI_skip, xI_blk, exitA, ty2, ty3, ty48, eK36_0_0, hw, hlt, hlt2, lst_read hg, lst_read hg2, hxy]
theorem v36 (a b : List Int) (n m : Nat) (hn : n = a.length) (hm : m = b.length) (hs : n < 1000000000000) : FnV TT 36 [.lst n (ints a), .lst m (ints b)] (.bool (decide (a = b))) := by
  refine FnV.mk fn36 rfl md36 ⟨⟨[], 0⟩, ?_⟩ (fun _ => rfl) rfl
  by_cases hnm : n = m
  · subst hnm
    have h1 := l36 a b n hn hm hs ⟨[], 0⟩ a b [] [] rfl rfl rfl
    rw [fi36] at h1 ⊢
    simp [xI_seq, xI_region, xI_ret, regA, regOps, runOps, opStep, wantedA, opA, evo, evos, calleeA, lk, nif_eq, putE, paramsE, valS, val2, keepE, restrict, finA, resA, binA, binInt, ofConst, ofConst1, loadA, TK.isAgg, asVar, unA, builtinA, lenOpA, lenA, ileb_cast, ileb_eq, ieqb_dec, indexAddrA, inB_dec, evPairs, storeA, AV.cellsOf, pairsOf, xI_nil, binBool, gcE, evOpt, xI_block, xI_loopH, xI_condM, xI_exitM, xI_skip, xI_blk, exitA, ty2, ty3, ty48, eK36_0_0]
    exact h1
  · have hab : a ≠ b := fun e => hnm (by rw [hn, hm, e])
    have hnm' : ¬ (n : Int) = m := by omega
    rw [fi36]
    simp [xI_seq, xI_region, xI_ret, regA, regOps, runOps, opStep, wantedA, opA, evo, evos, calleeA, lk, nif_eq, putE, paramsE, valS, val2, keepE, restrict, finA, resA, binA, binInt, ofConst, ofConst1, loadA, TK.isAgg, asVar, unA, builtinA, lenOpA, lenA, ileb_cast, ileb_eq, ieqb_dec, indexAddrA, inB_dec, evPairs, storeA, AV.cellsOf, pairsOf, xI_nil, binBool, gcE, evOpt, xI_block, xI_loopH, xI_condM, xI_exitM, xI_skip, xI_blk, exitA, ty2, ty3, ty48, eK36_0_0, hnm, hnm', hab]
def allR (l : List Int) (lo hi : Int) : Bool := l.all fun n => inR n lo hi
theorem c184 (n lo hi : Int) (σ : St) (p q : Nat) (x y : Blk) (hp : σ.get p = some x) (hx : x.cells = [.int .i64 lo]) (hq : σ.get q = some y) (hy : y.cells = [.int .i64 hi]) : callI TT 184 [.int .i64 n, .ptr p 0, .ptr q 0] σ = some (.bool (!inR n lo hi), σ) := by
  rw [cI_0 fn184 rfl md184, fi184]
  simp [xI_seq, xI_region, xI_ret, regA, regOps, runOps, opStep, wantedA, opA, evo, evos, calleeA, lk, nif_eq, putE, paramsE, valS, val2, keepE, restrict, finA, resA, binA, binInt, ofConst, ofConst1, loadA, TK.isAgg, asVar, unA, builtinA, lenOpA, lenA, ileb_cast, ileb_eq, ieqb_dec, indexAddrA, inB_dec, evPairs, storeA, AV.cellsOf, pairsOf, xI_nil, binBool, gcE, evOpt, xI_block, xI_loopH, xI_condM, xI_exitM, xI_skip, xI_blk, exitA, ty2, ty4, c63, cellsAt, hp, hx, hq, hy, getCells, takeN, dropN]

noncomputable def b198 : Code := Try.f198.body.getD .skip
noncomputable def B198_0 : Code := (bodyC (bodyC (sndC (fstC (sndC b198)))))
noncomputable def K198_0 : List It := .lp B198_0 :: .blk 0 :: .code (sndC (sndC b198)) :: []
theorem xl198_0 {fi : FI} {env : Env} {σ : St} : exI TT fi K198_0 env σ = exI TT fi (.code B198_0 :: K198_0) env σ := by unfold K198_0; exact xI_lp
noncomputable def R198_0_0 : List It := .code (sndC (sndC b198)) :: []
theorem eK198_0_0 : exitA 0 K198_0 = some R198_0_0 := rfl
theorem l198 (l : List Int) (len : Nat) (hlen : len = l.length) (hs : len < 3000000) (lo hi : Int) (σ : St) (p q : Nat) (x y : Blk) (hp : σ.get p = some x) (hx : x.cells = [.int .i64 lo]) (hq : σ.get q = some y) (hy : y.cells = [.int .i64 hi]) : ∀ (suf pre : List Int), l = pre ++ suf →
    ∃ r : Int, exI TT (FI.of Try.f198 (TT.an 198)) K198_0 [(0, .lst len (ints l)), (1, .fn 184 [] [.ptr p 0, .ptr q 0]), (7, .int .i64 len), (8, .int .i64 pre.length)] σ = some (.int .i64 r, σ) ∧ decide (0 ≤ r) = !allR suf lo hi := by
  intro suf
  induction suf with
  | nil =>
    intro pre hl
    refine ⟨-1, ?_, by simp [allR]⟩
    have hl : len = pre.length := by rw [hlen, hl]; simp
    subst hl
    rw [fi198]
    rw [xl198_0]
    simp only [B198_0, b198, Try.f198, Option.getD, fstC, sndC, bodyC, thnC, elsC]
    simp [xI_seq, xI_region, xI_ret, regA, regOps, runOps, opStep, wantedA, opA, evo, evos, calleeA, lk, nif_eq, putE, paramsE, valS, val2, keepE, restrict, finA, resA, binA, binInt, ofConst, ofConst1, loadA, TK.isAgg, asVar, unA, builtinA, lenOpA, lenA, ileb_cast, ileb_eq, ieqb_dec, indexAddrA, inB_dec, evPairs, storeA, AV.cellsOf, pairsOf, xI_nil, binBool, gcE, evOpt, xI_block, xI_loopH, xI_condM, xI_exitM, xI_skip, xI_blk, exitA, ty2, ty3, ty48, eK198_0_0]
    simp only [R198_0_0, b198, Try.f198, Option.getD, fstC, sndC, bodyC, thnC, elsC]
    simp [xI_seq, xI_region, xI_ret, regA, regOps, runOps, opStep, wantedA, opA, evo, evos, calleeA, lk, nif_eq, putE, paramsE, valS, val2, keepE, restrict, finA, resA, binA, binInt, ofConst, ofConst1, loadA, TK.isAgg, asVar, unA, builtinA, lenOpA, lenA, ileb_cast, ileb_eq, ieqb_dec, indexAddrA, inB_dec, evPairs, storeA, AV.cellsOf, pairsOf, xI_nil, binBool, gcE, evOpt, xI_block, xI_loopH, xI_condM, xI_exitM, xI_skip, xI_blk, exitA, ty2, ty3, ty48, eK198_0_0]
  | cons n suf ih =>
    intro pre hl
    have hll : len = pre.length + (suf.length + 1) := by rw [hlen, hl]; simp
    have hg : l[pre.length]? = some n := by simp [hl]
    obtain ⟨r, h1, h2⟩ := ih (pre ++ [n]) (by simp [hl])
    have hlt : ¬ len ≤ pre.length := by omega
    have hlt2 : pre.length < len := by omega
    have hw := wrapS (n := pre.length) (by omega)
    have hc := c184 n lo hi σ p q x y hp hx hq hy
    simp only [List.length_append, List.length_singleton] at h1
    cases hin : inR n lo hi with
    | true =>
      rw [hin] at hc
      refine ⟨r, ?_, by rw [h2]; simp [allR, hin]⟩
      rw [fi198] at h1 ⊢
      rw [xl198_0]
      simp only [B198_0, b198, Try.f198, Option.getD, fstC, sndC, bodyC, thnC, elsC]
      simp [xI_seq, xI_region, xI_ret, regA, regOps, runOps, opStep, wantedA, opA, evo, evos, calleeA, lk, nif_eq, putE, paramsE, valS, val2, keepE, restrict, finA, resA, binA, binInt, ofConst, ofConst1, loadA, TK.isAgg, asVar, unA, builtinA, lenOpA, lenA, ileb_cast, ileb_eq, ieqb_dec, indexAddrA, inB_dec, evPairs, storeA, AV.cellsOf, pairsOf, xI_nil, binBool, gcE, evOpt, xI_block, xI_loopH, xI_condM, xI_exitM, xI_skip, xI_blk, exitA, ty2, ty3, ty48, eK198_0_0, hw, hlt, hlt2, lst_read hg, hc]
      simpa using h1
    | false =>
      rw [hin] at hc
      refine ⟨pre.length, ?_, by simp [allR, hin]⟩
      rw [fi198]
      rw [xl198_0]
      simp only [B198_0, b198, Try.f198, Option.getD, fstC, sndC, bodyC, thnC, elsC]
      simp [xI_seq, xI_region, xI_ret, regA, regOps, runOps, opStep, wantedA, opA, evo, evos, calleeA, lk, nif_eq, putE, paramsE, valS, val2, keepE, restrict, finA, resA, binA, binInt, ofConst, ofConst1, loadA, TK.isAgg, asVar, unA, builtinA, lenOpA, lenA, ileb_cast, ileb_eq, ieqb_dec, indexAddrA, inB_dec, evPairs, storeA, AV.cellsOf, pairsOf, xI_nil, binBool, gcE, evOpt, xI_block, xI_loopH, xI_condM, xI_exitM, xI_skip, xI_blk, exitA, ty2, ty3, ty48, eK198_0_0, hw, hlt, hlt2, lst_read hg, hc]

theorem c183 (l : List Int) (len : Nat) (hlen : len = l.length) (hs : len < 3000000) (lo hi : Int) (σ : St) (p q : Nat) (x y : Blk) (hp : σ.get p = some x) (hx : x.cells = [.int .i64 lo]) (hq : σ.get q = some y) (hy : y.cells = [.int .i64 hi]) :
    callI TT 183 [.lst len (ints l), .fn 184 [] [.ptr p 0, .ptr q 0]] σ = some (.bool (!allR l lo hi), σ) := by
  obtain ⟨r, h1, h2⟩ := l198 l len hlen hs lo hi σ p q x y hp hx hq hy l [] rfl
  have hc : callI TT 198 [.lst len (ints l), .fn 184 [] [.ptr p 0, .ptr q 0]] σ = some (.int .i64 r, σ) := by
    rw [cI_0 fn198 rfl md198, ← h1, fi198]
    simp [xI_seq, xI_region, xI_ret, regA, regOps, runOps, opStep, wantedA, opA, evo, evos, calleeA, lk, nif_eq, putE, paramsE, valS, val2, keepE, restrict, finA, resA, binA, binInt, ofConst, ofConst1, loadA, TK.isAgg, asVar, unA, builtinA, lenOpA, lenA, ileb_cast, ileb_eq, ieqb_dec, indexAddrA, inB_dec, evPairs, storeA, AV.cellsOf, pairsOf, xI_nil, binBool, gcE, evOpt, xI_block, xI_loopH, xI_condM, xI_exitM, xI_skip, xI_blk, exitA, ty2, ty3, ty48, eK198_0_0]
    rfl
  rw [cI_0 fn183 rfl md183, fi183]
  simp [xI_seq, xI_region, xI_ret, regA, regOps, runOps, opStep, wantedA, opA, evo, evos, calleeA, lk, nif_eq, putE, paramsE, valS, val2, keepE, restrict, finA, resA, binA, binInt, ofConst, ofConst1, loadA, TK.isAgg, asVar, unA, builtinA, lenOpA, lenA, ileb_cast, ileb_eq, ieqb_dec, indexAddrA, inB_dec, evPairs, storeA, AV.cellsOf, pairsOf, xI_nil, binBool, gcE, evOpt, xI_block, xI_loopH, xI_condM, xI_exitM, xI_skip, xI_blk, exitA, ty3, hc, h2]

theorem v153 (l : List Int) (len : Nat) (hlen : len = l.length) (hs : len < 3000000) (lo hi : Int) : FnV TT 153 [.lst len (ints l), .int .i64 lo, .int .i64 hi] (.bool (allR l lo hi)) := by
  have h := c183 l len hlen hs lo hi (((⟨[], 0⟩ : St).push ⟨[.int .i64 lo], 1, false⟩).push ⟨[.int .i64 hi], 1, false⟩) 0 1 _ _ rfl rfl rfl rfl
  refine FnV.mk fn153 rfl md153 ⟨((⟨[], 0⟩ : St).push ⟨[.int .i64 lo], 1, false⟩).push ⟨[.int .i64 hi], 1, false⟩, ?_⟩ (fun _ => rfl) rfl
  rw [fi153]
  simp [xI_seq, xI_region, xI_ret, regA, regOps, runOps, opStep, wantedA, opA, evo, evos, calleeA, lk, nif_eq, putE, paramsE, valS, val2, keepE, restrict, finA, resA, binA, binInt, ofConst, ofConst1, loadA, TK.isAgg, asVar, unA, builtinA, lenOpA, lenA, ileb_cast, ileb_eq, ieqb_dec, indexAddrA, inB_dec, evPairs, storeA, AV.cellsOf, pairsOf, xI_nil, binBool, gcE, evOpt, xI_block, xI_loopH, xI_condM, xI_exitM, xI_skip, xI_blk, exitA, ty2, ty4, h, allOne, AV.one, n_push]

theorem inR_iff {n lo hi : Int} : inR n lo hi = true ↔ lo ≤ n ∧ n ≤ hi := by simp [inR]
theorem allR_spec {l : List Int} {lo hi : Int} (h : allR l lo hi = true) : ∀ c ∈ l, lo ≤ c ∧ c ≤ hi := fun c hc => inR_iff.1 (List.all_eq_true.1 h c hc)
/-- Exchange. -/
def swp (l : List Int) (i j : Nat) : List Int := (l.set i (l.getD j 0)).set j (l.getD i 0)
theorem swp_length (l : List Int) (i j : Nat) : (swp l i j).length = l.length := by simp [swp]
theorem getD_get {l : List Int} {i : Nat} (h : i < l.length) : l[i]? = some (l.getD i 0) := by simp [h]
/-- Where a number stands first; -1 if nowhere. -/
def ixF (x : Int) : List Int → Nat → Int
  | [], _ => -1
  | y :: r, k => if x = y then k else ixF x r (k + 1)
noncomputable def b158 : Code := Try.f158.body.getD .skip
noncomputable def B158_0 : Code := (bodyC (bodyC (sndC (fstC (sndC b158)))))
noncomputable def K158_0 : List It := .lp B158_0 :: .blk 0 :: .code (sndC (sndC b158)) :: []
theorem xl158_0 {fi : FI} {env : Env} {σ : St} : exI TT fi K158_0 env σ = exI TT fi (.code B158_0 :: K158_0) env σ := by unfold K158_0; exact xI_lp
noncomputable def R158_0_0 : List It := .code (sndC (sndC b158)) :: []
theorem eK158_0_0 : exitA 0 K158_0 = some R158_0_0 := rfl
theorem l158 (l : List Int) (len : Nat) (hlen : len = l.length) (hs : len < 3000000) (x : Int) (σ : St) : ∀ (suf pre : List Int), l = pre ++ suf →
    exI TT (FI.of Try.f158 (TT.an 158)) K158_0 [(0, .lst len (ints l)), (1, .int .i64 x), (7, .int .i64 len), (8, .int .i64 pre.length)] σ = some (.int .i64 (ixF x suf pre.length), σ) := by
  intro suf
  induction suf with
  | nil =>
    intro pre hl
    have hll : len = pre.length := by rw [hlen, hl]; simp
    subst hll
    rw [fi158]
    rw [xl158_0]
    simp only [B158_0, b158, Try.f158, Option.getD, fstC, sndC, bodyC, thnC, elsC]
    simp [xI_seq, xI_region, xI_ret, regA, regOps, runOps, opStep, wantedA, opA, evo, evos, calleeA, lk, nif_eq, putE, paramsE, valS, val2, keepE, restrict, finA, resA, binA, binInt, ofConst, ofConst1, loadA, TK.isAgg, asVar, unA, builtinA, lenOpA, lenA, ileb_cast, ileb_eq, ieqb_dec, indexAddrA, inB_dec, evPairs, storeA, AV.cellsOf, pairsOf, xI_nil, binBool, gcE, evOpt, xI_block, xI_loopH, xI_condM, xI_exitM, xI_skip, xI_blk, exitA, ty2, ty3, ty48, eK158_0_0]
    simp only [R158_0_0, b158, Try.f158, Option.getD, fstC, sndC, bodyC, thnC, elsC]
    simp [xI_seq, xI_region, xI_ret, regA, regOps, runOps, opStep, wantedA, opA, evo, evos, calleeA, lk, nif_eq, putE, paramsE, valS, val2, keepE, restrict, finA, resA, binA, binInt, ofConst, ofConst1, loadA, TK.isAgg, asVar, unA, builtinA, lenOpA, lenA, ileb_cast, ileb_eq, ieqb_dec, indexAddrA, inB_dec, evPairs, storeA, AV.cellsOf, pairsOf, xI_nil, binBool, gcE, evOpt, xI_block, xI_loopH, xI_condM, xI_exitM, xI_skip, xI_blk, exitA, ty2, ty3, ty48, eK158_0_0, ixF]
  | cons y suf ih =>
    intro pre hl
    have hll : len = pre.length + (suf.length + 1) := by rw [hlen, hl]; simp
    have hg : l[pre.length]? = some y := by simp [hl]
    have h1 := ih (pre ++ [y]) (by simp [hl])
    simp only [List.length_append, List.length_singleton] at h1
    have hlt : ¬ len ≤ pre.length := by omega
    have hlt2 : pre.length < len := by omega
    have hw := wrapS (n := pre.length) (by omega)
    by_cases hxy : x = y
    · subst hxy
      rw [fi158]
      rw [xl158_0]
      simp only [B158_0, b158, Try.f158, Option.getD, fstC, sndC, bodyC, thnC, elsC]
      simp [xI_seq, xI_region, xI_ret, regA, regOps, runOps, opStep, wantedA, opA, evo, evos, calleeA, lk, nif_eq, putE, paramsE, valS, val2, keepE, restrict, finA, resA, binA, binInt, ofConst, ofConst1, loadA, TK.isAgg, asVar, unA, builtinA, lenOpA, lenA, ileb_cast, ileb_eq, ieqb_dec, indexAddrA, inB_dec, evPairs, storeA, AV.cellsOf, pairsOf, xI_nil, binBool, gcE, evOpt, xI_block, xI_loopH, xI_condM, xI_exitM, xI_skip, xI_blk, exitA, ty2, ty3, ty48, eK158_0_0, hw, hlt, hlt2, lst_read hg, ixF]
    · rw [show ixF x (y :: suf) pre.length = ixF x suf (pre.length + 1) by simp [ixF, hxy]]
      rw [fi158] at h1 ⊢
      rw [xl158_0]
      simp only [B158_0, b158, Try.f158, Option.getD, fstC, sndC, bodyC, thnC, elsC]
      simp [xI_seq, xI_region, xI_ret, regA, regOps, runOps, opStep, wantedA, opA, evo, evos, calleeA, lk, nif_eq, putE, paramsE, valS, val2, keepE, restrict, finA, resA, binA, binInt, ofConst, ofConst1, loadA, TK.isAgg, asVar, unA, builtinA, lenOpA, lenA, ileb_cast, ileb_eq, ieqb_dec, indexAddrA, inB_dec, evPairs, storeA, AV.cellsOf, pairsOf, xI_nil, binBool, gcE, evOpt, xI_block, xI_loopH, xI_condM, xI_exitM, xI_skip, xI_blk, exitA, ty2, ty3, ty48, eK158_0_0, hw, hlt, hlt2, lst_read hg, hxy]
      simpa using h1
theorem v158 (l : List Int) (len : Nat) (hlen : len = l.length) (hs : len < 3000000) (x : Int) (σ : St) (args : List AV) (ha : args = [.lst len (ints l), .int .i64 x]) : callI TT 158 args σ = some (.int .i64 (ixF x l 0), σ) := by
  subst ha
  rw [cI_0 fn158 rfl md158]
  have h := l158 l len hlen hs x σ l [] rfl
  rw [fi158] at h ⊢
  simp [xI_seq, xI_region, xI_ret, regA, regOps, runOps, opStep, wantedA, opA, evo, evos, calleeA, lk, nif_eq, putE, paramsE, valS, val2, keepE, restrict, finA, resA, binA, binInt, ofConst, ofConst1, loadA, TK.isAgg, asVar, unA, builtinA, lenOpA, lenA, ileb_cast, ileb_eq, ieqb_dec, indexAddrA, inB_dec, evPairs, storeA, AV.cellsOf, pairsOf, xI_nil, binBool, gcE, evOpt, xI_block, xI_loopH, xI_condM, xI_exitM, xI_skip, xI_blk, exitA, ty2, ty3, ty48, eK158_0_0]
  exact h

noncomputable def b151 : Code := Try.f151.body.getD .skip
noncomputable def B151_0 : Code := (bodyC (bodyC (sndC (fstC (sndC b151)))))
noncomputable def K151_0 : List It := .lp B151_0 :: .blk 0 :: .code (sndC (sndC b151)) :: []
theorem xl151_0 {fi : FI} {env : Env} {σ : St} : exI TT fi K151_0 env σ = exI TT fi (.code B151_0 :: K151_0) env σ := by unfold K151_0; exact xI_lp
noncomputable def R151_0_0 : List It := .code (sndC (sndC b151)) :: []
theorem eK151_0_0 : exitA 0 K151_0 = some R151_0_0 := rfl
theorem l151 (l : List Int) (len : Nat) (hlen : len = l.length) (hs : len < 3000000) (x : Int) (σ : St) : ∀ (suf pre : List Int), l = pre ++ suf →
    exI TT (FI.of Try.f151 (TT.an 151)) K151_0 [(0, .lst len (ints l)), (1, .int .i64 x), (5, .int .i64 pre.length)] σ = some (.bool (decide (x ∈ suf)), σ) := by
  intro suf
  induction suf with
  | nil =>
    intro pre hl
    have hll : len = pre.length := by rw [hlen, hl]; simp
    subst hll
    rw [fi151]
    rw [xl151_0]
    simp only [B151_0, b151, Try.f151, Option.getD, fstC, sndC, bodyC, thnC, elsC]
    simp [xI_seq, xI_region, xI_ret, regA, regOps, runOps, opStep, wantedA, opA, evo, evos, calleeA, lk, nif_eq, putE, paramsE, valS, val2, keepE, restrict, finA, resA, binA, binInt, ofConst, ofConst1, loadA, TK.isAgg, asVar, unA, builtinA, lenOpA, lenA, ileb_cast, ileb_eq, ieqb_dec, indexAddrA, inB_dec, evPairs, storeA, AV.cellsOf, pairsOf, xI_nil, binBool, gcE, evOpt, xI_block, xI_loopH, xI_condM, xI_exitM, xI_skip, xI_blk, exitA, ty2, ty3, ty48, eK151_0_0]
    simp only [R151_0_0, b151, Try.f151, Option.getD, fstC, sndC, bodyC, thnC, elsC]
    simp [xI_seq, xI_region, xI_ret, regA, regOps, runOps, opStep, wantedA, opA, evo, evos, calleeA, lk, nif_eq, putE, paramsE, valS, val2, keepE, restrict, finA, resA, binA, binInt, ofConst, ofConst1, loadA, TK.isAgg, asVar, unA, builtinA, lenOpA, lenA, ileb_cast, ileb_eq, ieqb_dec, indexAddrA, inB_dec, evPairs, storeA, AV.cellsOf, pairsOf, xI_nil, binBool, gcE, evOpt, xI_block, xI_loopH, xI_condM, xI_exitM, xI_skip, xI_blk, exitA, ty2, ty3, ty48, eK151_0_0]
  | cons y suf ih =>
    intro pre hl
    have hll : len = pre.length + (suf.length + 1) := by rw [hlen, hl]; simp
    have hg : l[pre.length]? = some y := by simp [hl]
    have h1 := ih (pre ++ [y]) (by simp [hl])
    simp only [List.length_append, List.length_singleton] at h1
    have hlt : ¬ len ≤ pre.length := by omega
    have hlt2 : pre.length < len := by omega
    have hw := wrapS (n := pre.length) (by omega)
    by_cases hxy : y = x
    · have hm : decide (x ∈ y :: suf) = true := by simp [hxy]
      rw [hm]
      rw [fi151]
      rw [xl151_0]
      simp only [B151_0, b151, Try.f151, Option.getD, fstC, sndC, bodyC, thnC, elsC]
      simp [xI_seq, xI_region, xI_ret, regA, regOps, runOps, opStep, wantedA, opA, evo, evos, calleeA, lk, nif_eq, putE, paramsE, valS, val2, keepE, restrict, finA, resA, binA, binInt, ofConst, ofConst1, loadA, TK.isAgg, asVar, unA, builtinA, lenOpA, lenA, ileb_cast, ileb_eq, ieqb_dec, indexAddrA, inB_dec, evPairs, storeA, AV.cellsOf, pairsOf, xI_nil, binBool, gcE, evOpt, xI_block, xI_loopH, xI_condM, xI_exitM, xI_skip, xI_blk, exitA, ty2, ty3, ty48, eK151_0_0, hw, hlt, hlt2, lst_read hg, hxy]
    · have hm : decide (x ∈ y :: suf) = decide (x ∈ suf) := by simp [Ne.symm hxy]
      rw [hm]
      rw [fi151] at h1 ⊢
      rw [xl151_0]
      simp only [B151_0, b151, Try.f151, Option.getD, fstC, sndC, bodyC, thnC, elsC]
      simp [xI_seq, xI_region, xI_ret, regA, regOps, runOps, opStep, wantedA, opA, evo, evos, calleeA, lk, nif_eq, putE, paramsE, valS, val2, keepE, restrict, finA, resA, binA, binInt, ofConst, ofConst1, loadA, TK.isAgg, asVar, unA, builtinA, lenOpA, lenA, ileb_cast, ileb_eq, ieqb_dec, indexAddrA, inB_dec, evPairs, storeA, AV.cellsOf, pairsOf, xI_nil, binBool, gcE, evOpt, xI_block, xI_loopH, xI_condM, xI_exitM, xI_skip, xI_blk, exitA, ty2, ty3, ty48, eK151_0_0, hw, hlt, hlt2, lst_read hg, hxy]
      simpa using h1
theorem v151 (l : List Int) (len : Nat) (hlen : len = l.length) (hs : len < 3000000) (x : Int) : FnV TT 151 [.lst len (ints l), .int .i64 x] (.bool (decide (x ∈ l))) := by
  refine FnV.mk fn151 rfl md151 ⟨⟨[], 0⟩, ?_⟩ (fun _ => rfl) rfl
  have h := l151 l len hlen hs x ⟨[], 0⟩ l [] rfl
  rw [fi151] at h ⊢
  simp [xI_seq, xI_region, xI_ret, regA, regOps, runOps, opStep, wantedA, opA, evo, evos, calleeA, lk, nif_eq, putE, paramsE, valS, val2, keepE, restrict, finA, resA, binA, binInt, ofConst, ofConst1, loadA, TK.isAgg, asVar, unA, builtinA, lenOpA, lenA, ileb_cast, ileb_eq, ieqb_dec, indexAddrA, inB_dec, evPairs, storeA, AV.cellsOf, pairsOf, xI_nil, binBool, gcE, evOpt, xI_block, xI_loopH, xI_condM, xI_exitM, xI_skip, xI_blk, exitA, ty2, ty3, ty48, eK151_0_0]
  exact h
/-- A number put among rising ones, once. -/
def put (x : Int) : List Int → List Int
  | [] => [x]
  | y :: r => if x ≤ y then (if x < y then x :: y :: r else y :: r) else y :: put x r
theorem c221 (n : Int) (σ : St) : callI TT 221 [.int .i64 n] σ = some (.bool false, σ) := by
  refine (FnV.mk (args' := [.int .i64 n]) fn221 rfl md221 ⟨⟨[], 0⟩, ?_⟩ (fun _ => rfl) rfl) σ _ rfl
  rw [fi221]
  simp [xI_seq, xI_region, xI_ret, regA, regOps, runOps, opStep, wantedA, opA, evo, evos, calleeA, lk, nif_eq, putE, paramsE, valS, val2, keepE, restrict, finA, resA, binA, binInt, ofConst, ofConst1, loadA, TK.isAgg, asVar, unA, builtinA, lenOpA, lenA, ileb_cast, ileb_eq, ieqb_dec, indexAddrA, inB_dec, evPairs, storeA, AV.cellsOf, pairsOf, xI_nil, binBool, gcE, evOpt, xI_block, xI_loopH, xI_condM, xI_exitM, xI_skip, xI_blk, exitA, ty2]

theorem c212 (a b : Int) (σ : St) : callI TT 212 [.int .i64 a, .int .i64 b] σ = some (.bool (decide (a < b)), σ) := by
  refine (FnV.mk (args' := [.int .i64 a, .int .i64 b]) fn212 rfl md212 ⟨⟨[], 0⟩, ?_⟩ (fun _ => rfl) rfl) σ _ rfl
  rw [fi212]
  by_cases h : a < b
  · have h2 : ¬ b ≤ a := by omega
    simp [xI_seq, xI_region, xI_ret, regA, regOps, runOps, opStep, wantedA, opA, evo, evos, calleeA, lk, nif_eq, putE, paramsE, valS, val2, keepE, restrict, finA, resA, binA, binInt, ofConst, ofConst1, loadA, TK.isAgg, asVar, unA, builtinA, lenOpA, lenA, ileb_cast, ileb_eq, ieqb_dec, indexAddrA, inB_dec, evPairs, storeA, AV.cellsOf, pairsOf, xI_nil, binBool, gcE, evOpt, xI_block, xI_loopH, xI_condM, xI_exitM, xI_skip, xI_blk, exitA, ty2, ty4, c221, h, h2]
  · have h2 : b ≤ a := by omega
    simp [xI_seq, xI_region, xI_ret, regA, regOps, runOps, opStep, wantedA, opA, evo, evos, calleeA, lk, nif_eq, putE, paramsE, valS, val2, keepE, restrict, finA, resA, binA, binInt, ofConst, ofConst1, loadA, TK.isAgg, asVar, unA, builtinA, lenOpA, lenA, ileb_cast, ileb_eq, ieqb_dec, indexAddrA, inB_dec, evPairs, storeA, AV.cellsOf, pairsOf, xI_nil, binBool, gcE, evOpt, xI_block, xI_loopH, xI_condM, xI_exitM, xI_skip, xI_blk, exitA, ty2, ty4, c221, h, h2]
/-- A number let sink to its place among those ahead of it. -/
def bub : Nat → List Int → List Int
  | 0, l => l
  | j + 1, l => if l.getD (j + 1) 0 < l.getD j 0 then bub j (swp l (j + 1) j) else l
theorem bub_length : ∀ (j : Nat) (l : List Int), (bub j l).length = l.length
  | 0, _ => rfl
  | j + 1, l => by
    simp only [bub]
    split
    · rw [bub_length j, swp_length]
    · rfl
def isrt : Nat → Nat → List Int → List Int
  | 0, _, l => l
  | m + 1, i, l => isrt m (i + 1) (bub i l)
theorem isrt_length : ∀ (m i : Nat) (l : List Int), (isrt m i l).length = l.length
  | 0, _, _ => rfl
  | m + 1, i, l => by rw [isrt, isrt_length m, bub_length]

noncomputable def b206 : Code := Try.f206.body.getD .skip
noncomputable def B206_0 : Code := (bodyC (bodyC (sndC b206)))
noncomputable def K206_0 : List It := .lp B206_0 :: .blk 0 :: []
theorem xl206_0 {fi : FI} {env : Env} {σ : St} : exI TT fi K206_0 env σ = exI TT fi (.code B206_0 :: K206_0) env σ := by unfold K206_0; exact xI_lp
noncomputable def R206_0_0 : List It := []
theorem eK206_0_0 : exitA 0 K206_0 = some R206_0_0 := rfl
noncomputable def B206_1 : Code := (bodyC (bodyC (sndC (bodyC (fstC (sndC (bodyC (bodyC (sndC b206)))))))))
noncomputable def K206_1 : List It := .lp B206_1 :: .blk 2 :: .blk 1 :: .code (sndC (sndC (bodyC (bodyC (sndC b206))))) :: K206_0
theorem xl206_1 {fi : FI} {env : Env} {σ : St} : exI TT fi K206_1 env σ = exI TT fi (.code B206_1 :: K206_1) env σ := by unfold K206_1; exact xI_lp
noncomputable def R206_1_2 : List It := .blk 1 :: .code (sndC (sndC (bodyC (bodyC (sndC b206))))) :: K206_0
theorem eK206_1_2 : exitA 2 K206_1 = some R206_1_2 := rfl
noncomputable def R206_1_1 : List It := .code (sndC (sndC (bodyC (bodyC (sndC b206))))) :: K206_0
theorem eK206_1_1 : exitA 1 K206_1 = some R206_1_1 := rfl
theorem eK206_1_0 : exitA 0 K206_1 = some R206_0_0 := rfl
theorem l206_1 (b n i : Nat) (hn : n < 1000) : ∀ (j : Nat) (σ : St) (l : List Int), j < n → l.length = n → Row σ b l →
    ∃ σ' j', exI TT (FI.of Try.f206 (TT.an 206)) K206_1 [(0, .sl b 0 n n), (1, .int .i64 0), (2, .int .i64 n), (6, .int .i64 i), (7, .int .i64 j)] σ = exI TT (FI.of Try.f206 (TT.an 206)) R206_1_2 [(0, .sl b 0 n n), (1, .int .i64 0), (2, .int .i64 n), (6, .int .i64 i), (7, .int .i64 j'), (30, .bool false)] σ' ∧ Row σ' b (bub j l) ∧ But b σ σ' := by
  intro j
  induction j with
  | zero =>
    intro σ l hj hl hr
    refine ⟨σ, 0, ?_, hr, rfl, fun _ _ => rfl⟩
    rw [fi206]
    rw [xl206_1]
    simp only [B206_1, b206, Try.f206, Option.getD, fstC, sndC, bodyC, thnC, elsC]
    simp [xI_seq, xI_region, xI_ret, regA, regOps, runOps, opStep, wantedA, opA, evo, evos, calleeA, lk, nif_eq, putE, paramsE, valS, val2, keepE, restrict, finA, resA, binA, binInt, ofConst, ofConst1, loadA, TK.isAgg, asVar, unA, builtinA, lenOpA, lenA, ileb_cast, ileb_eq, ieqb_dec, indexAddrA, inB_dec, evPairs, storeA, AV.cellsOf, pairsOf, xI_nil, binBool, gcE, evOpt, xI_block, xI_loopH, xI_condM, xI_exitM, xI_skip, xI_blk, exitA, ty2, ty3, ty48, eK206_0_0, eK206_1_2, eK206_1_1, eK206_1_0]
  | succ j ih =>
    intro σ l hj hl hr
    have g1 := hr.read (getD_get (l := l) (i := j + 1) (by omega))
    have g2 := hr.read (getD_get (l := l) (i := j) (by omega))
    have hlt2 : (j : Int) + 1 < (n : Int) := by omega
    have hlt3 : (j : Int) < (n : Int) := by omega
    have hjn : j < n := by omega
    have hz : (0 : Int) ≤ (j : Int) + 1 := by omega
    have hz2 : ¬ (j : Int) + 1 ≤ 0 := by omega
    have htn : ((j : Int) + 1).toNat = j + 1 := by omega
    have hw1 : wrapA .i64 (j : Int) = (j : Int) := wrapA_id (by omega) (by omega)
    rw [show ((j + 1 : Nat) : Int) = (j : Int) + 1 by omega]
    by_cases hlt : l.getD (j + 1) 0 < l.getD j 0
    · obtain ⟨σ1, s1, r1, n1, o1⟩ := store_row (i := j + 1) (x := l.getD j 0) hr (by omega)
      obtain ⟨σ2, s2, r2, n2, o2⟩ := store_row (i := j) (x := l.getD (j + 1) 0) r1 (by simp; omega)
      obtain ⟨σ', j', h1, h2, h3, h4⟩ := ih σ2 (swp l (j + 1) j) (by omega) (by rw [swp_length]; exact hl) r2
      have hb : bub (j + 1) l = bub j (swp l (j + 1) j) := by simp only [bub]; rw [if_pos hlt]
      rw [hb]
      refine ⟨σ', j', ?_, h2, h3.trans (n2.trans n1), fun c hc => (h4 c hc).trans ((o2 c hc).trans (o1 c hc))⟩
      generalize l.getD (j + 1) 0 = u at *
      generalize l.getD j 0 = v at *
      rw [fi206] at h1 ⊢
      rw [xl206_1]
      simp only [B206_1, b206, Try.f206, Option.getD, fstC, sndC, bodyC, thnC, elsC]
      simp [xI_seq, xI_region, xI_ret, regA, regOps, runOps, opStep, wantedA, opA, evo, evos, calleeA, lk, nif_eq, putE, paramsE, valS, val2, keepE, restrict, finA, resA, binA, binInt, ofConst, ofConst1, loadA, TK.isAgg, asVar, unA, builtinA, lenOpA, lenA, ileb_cast, ileb_eq, ieqb_dec, indexAddrA, inB_dec, evPairs, storeA, AV.cellsOf, pairsOf, xI_nil, binBool, gcE, evOpt, xI_block, xI_loopH, xI_condM, xI_exitM, xI_skip, xI_blk, exitA, ty2, ty3, ty48, eK206_0_0, eK206_1_2, eK206_1_1, eK206_1_0, c212, g1, g2, s1, s2, hlt, hlt2, hlt3, hz, hz2, htn, hw1, hjn]
      exact h1
    · have hb : bub (j + 1) l = l := by simp only [bub]; rw [if_neg hlt]
      rw [hb]
      refine ⟨σ, (j : Int) + 1, ?_, hr, rfl, fun _ _ => rfl⟩
      generalize l.getD (j + 1) 0 = u at *
      generalize l.getD j 0 = v at *
      have hlt5 : v ≤ u := by omega
      rw [fi206]
      rw [xl206_1]
      simp only [B206_1, b206, Try.f206, Option.getD, fstC, sndC, bodyC, thnC, elsC]
      simp [xI_seq, xI_region, xI_ret, regA, regOps, runOps, opStep, wantedA, opA, evo, evos, calleeA, lk, nif_eq, putE, paramsE, valS, val2, keepE, restrict, finA, resA, binA, binInt, ofConst, ofConst1, loadA, TK.isAgg, asVar, unA, builtinA, lenOpA, lenA, ileb_cast, ileb_eq, ieqb_dec, indexAddrA, inB_dec, evPairs, storeA, AV.cellsOf, pairsOf, xI_nil, binBool, gcE, evOpt, xI_block, xI_loopH, xI_condM, xI_exitM, xI_skip, xI_blk, exitA, ty2, ty3, ty48, eK206_0_0, eK206_1_2, eK206_1_1, eK206_1_0, c212, g1, g2, hlt, hlt5, hlt2, hlt3, hz, hz2, htn, hw1, hjn]
theorem l206_0 (b n : Nat) (hn : n < 1000) : ∀ (m i : Nat) (σ : St) (l : List Int), 1 ≤ i → (i + m = n ∨ (m = 0 ∧ n ≤ i ∧ i ≤ 1000)) → l.length = n → Row σ b l →
    ∃ σ', exI TT (FI.of Try.f206 (TT.an 206)) K206_0 [(0, .sl b 0 n n), (1, .int .i64 0), (2, .int .i64 n), (6, .int .i64 i)] σ = some (.tup [], σ') ∧ Row σ' b (isrt m i l) ∧ But b σ σ' := by
  intro m
  induction m with
  | zero =>
    intro i σ l h1i hi hl hr
    have hle : n ≤ i := by omega
    refine ⟨σ, ?_, hr, rfl, fun _ _ => rfl⟩
    rw [fi206]
    rw [xl206_0]
    simp only [B206_0, b206, Try.f206, Option.getD, fstC, sndC, bodyC, thnC, elsC]
    simp [xI_seq, xI_region, xI_ret, regA, regOps, runOps, opStep, wantedA, opA, evo, evos, calleeA, lk, nif_eq, putE, paramsE, valS, val2, keepE, restrict, finA, resA, binA, binInt, ofConst, ofConst1, loadA, TK.isAgg, asVar, unA, builtinA, lenOpA, lenA, ileb_cast, ileb_eq, ieqb_dec, indexAddrA, inB_dec, evPairs, storeA, AV.cellsOf, pairsOf, xI_nil, binBool, gcE, evOpt, xI_block, xI_loopH, xI_condM, xI_exitM, xI_skip, xI_blk, exitA, ty2, ty3, ty48, eK206_0_0, eK206_1_2, eK206_1_1, eK206_1_0, hle]
    simp only [R206_0_0, b206, Try.f206, Option.getD, fstC, sndC, bodyC, thnC, elsC]
    simp [xI_seq, xI_region, xI_ret, regA, regOps, runOps, opStep, wantedA, opA, evo, evos, calleeA, lk, nif_eq, putE, paramsE, valS, val2, keepE, restrict, finA, resA, binA, binInt, ofConst, ofConst1, loadA, TK.isAgg, asVar, unA, builtinA, lenOpA, lenA, ileb_cast, ileb_eq, ieqb_dec, indexAddrA, inB_dec, evPairs, storeA, AV.cellsOf, pairsOf, xI_nil, binBool, gcE, evOpt, xI_block, xI_loopH, xI_condM, xI_exitM, xI_skip, xI_blk, exitA, ty2, ty3, ty48, eK206_0_0, eK206_1_2, eK206_1_1, eK206_1_0]
  | succ m ih =>
    intro i σ l h1i hi hl hr
    have hlt : ¬ n ≤ i := by omega
    have hw : wrapA .i64 ((i : Int) + 1) = (i : Int) + 1 := wrapS (by omega)
    obtain ⟨σ1, j', h1, h2, h3, h4⟩ := l206_1 b n i hn i σ l (by omega) hl hr
    obtain ⟨σ', h5, h6, h7, h8⟩ := ih (i + 1) σ1 (bub i l) (by omega) (by omega) (by rw [bub_length]; exact hl) h2
    refine ⟨σ', ?_, h6, h7.trans h3, fun c hc => (h8 c hc).trans (h4 c hc)⟩
    rw [show ((i + 1 : Nat) : Int) = (i : Int) + 1 by omega] at h5
    have h9 : exI TT (FI.of Try.f206 (TT.an 206)) R206_1_2 [(0, .sl b 0 n n), (1, .int .i64 0), (2, .int .i64 n), (6, .int .i64 i), (7, .int .i64 j'), (30, .bool false)] σ1 = some (.tup [], σ') := by
      rw [fi206] at h5 ⊢
      simp only [R206_1_2, b206, Try.f206, Option.getD, fstC, sndC, bodyC, thnC, elsC]
      simp [xI_seq, xI_region, xI_ret, regA, regOps, runOps, opStep, wantedA, opA, evo, evos, calleeA, lk, nif_eq, putE, paramsE, valS, val2, keepE, restrict, finA, resA, binA, binInt, ofConst, ofConst1, loadA, TK.isAgg, asVar, unA, builtinA, lenOpA, lenA, ileb_cast, ileb_eq, ieqb_dec, indexAddrA, inB_dec, evPairs, storeA, AV.cellsOf, pairsOf, xI_nil, binBool, gcE, evOpt, xI_block, xI_loopH, xI_condM, xI_exitM, xI_skip, xI_blk, exitA, ty2, ty3, ty48, eK206_0_0, eK206_1_2, eK206_1_1, eK206_1_0, hw]
      exact h5
    rw [h9] at h1
    rw [fi206] at h1 ⊢
    rw [xl206_0]
    simp only [B206_0, b206, Try.f206, Option.getD, fstC, sndC, bodyC, thnC, elsC]
    simp [xI_seq, xI_region, xI_ret, regA, regOps, runOps, opStep, wantedA, opA, evo, evos, calleeA, lk, nif_eq, putE, paramsE, valS, val2, keepE, restrict, finA, resA, binA, binInt, ofConst, ofConst1, loadA, TK.isAgg, asVar, unA, builtinA, lenOpA, lenA, ileb_cast, ileb_eq, ieqb_dec, indexAddrA, inB_dec, evPairs, storeA, AV.cellsOf, pairsOf, xI_nil, binBool, gcE, evOpt, xI_block, xI_loopH, xI_condM, xI_exitM, xI_skip, xI_blk, exitA, ty2, ty3, ty48, eK206_0_0, eK206_1_2, eK206_1_1, eK206_1_0, hlt]
    exact h1
theorem m206 (σ : St) (b n : Nat) (l : List Int) (hn : n = l.length) (hs : n < 1000) (hr : Row σ b l) :
    ∃ σ', callI TT 206 [.sl b 0 n n, .int .i64 0, .int .i64 n] σ = some (.tup [], σ') ∧ Row σ' b (isrt (n - 1) 1 l) ∧ But b σ σ' := by
  obtain ⟨σ', h1, h2, h3⟩ := l206_0 b n hs (n - 1) 1 σ l (by omega) (by omega) hn.symm hr
  refine ⟨σ', ?_, h2, h3⟩
  have hw : wrapA .i64 1 = 1 := rfl
  rw [cI_0 fn206 rfl md206]
  rw [fi206] at h1 ⊢
  simp [xI_seq, xI_region, xI_ret, regA, regOps, runOps, opStep, wantedA, opA, evo, evos, calleeA, lk, nif_eq, putE, paramsE, valS, val2, keepE, restrict, finA, resA, binA, binInt, ofConst, ofConst1, loadA, TK.isAgg, asVar, unA, builtinA, lenOpA, lenA, ileb_cast, ileb_eq, ieqb_dec, indexAddrA, inB_dec, evPairs, storeA, AV.cellsOf, pairsOf, xI_nil, binBool, gcE, evOpt, xI_block, xI_loopH, xI_condM, xI_exitM, xI_skip, xI_blk, exitA, ty2, ty3, ty48, eK206_0_0, eK206_1_2, eK206_1_1, eK206_1_0, hw]
  exact h1

theorem m200 (σ : St) (b n : Nat) (l : List Int) (k : Int) (hn : n = l.length) (hs : n ≤ 12) (hr : Row σ b l) :
    ∃ σ', callI TT 200 [.sl b 0 n n, .int .i64 0, .int .i64 n, .int .i64 k] σ = some (.tup [], σ') ∧ Row σ' b (isrt (n - 1) 1 l) ∧ But b σ σ' := by
  obtain ⟨σ', h1, h2, h3⟩ := m206 σ b n l hn (by omega) hr
  refine ⟨σ', ?_, h2, h3⟩
  have hw : wrapA .i64 (n : Int) = n := wrapA_id (by omega) (by omega)
  have hle : (n : Int) ≤ 12 := by omega
  rw [cI_0 fn200 rfl md200, fi200]
  simp [xI_seq, xI_region, xI_ret, regA, regOps, runOps, opStep, wantedA, opA, evo, evos, calleeA, lk, nif_eq, putE, paramsE, valS, val2, keepE, restrict, finA, resA, binA, binInt, ofConst, ofConst1, loadA, TK.isAgg, asVar, unA, builtinA, lenOpA, lenA, ileb_cast, ileb_eq, ieqb_dec, indexAddrA, inB_dec, evPairs, storeA, AV.cellsOf, pairsOf, xI_nil, binBool, gcE, evOpt, xI_block, xI_loopH, xI_condM, xI_exitM, xI_skip, xI_blk, exitA, ty2, ty3, ty4, ty48, ty205, xI_lp, hw, hle, h1]

theorem v201_0 : ∃ r, FnV TT 201 [.int .u64 0] (.int .i64 r) := ⟨0, FnV.mk fn201 rfl md201 ⟨⟨[], 0⟩, exI_iff.2 ⟨10000, by kernel_rfl⟩⟩ (fun _ => rfl) rfl⟩
theorem v201_1 : ∃ r, FnV TT 201 [.int .u64 1] (.int .i64 r) := ⟨1, FnV.mk fn201 rfl md201 ⟨⟨[], 0⟩, exI_iff.2 ⟨10000, by kernel_rfl⟩⟩ (fun _ => rfl) rfl⟩
theorem v201_2 : ∃ r, FnV TT 201 [.int .u64 2] (.int .i64 r) := ⟨2, FnV.mk fn201 rfl md201 ⟨⟨[], 0⟩, exI_iff.2 ⟨10000, by kernel_rfl⟩⟩ (fun _ => rfl) rfl⟩
theorem v201_3 : ∃ r, FnV TT 201 [.int .u64 3] (.int .i64 r) := ⟨2, FnV.mk fn201 rfl md201 ⟨⟨[], 0⟩, exI_iff.2 ⟨10000, by kernel_rfl⟩⟩ (fun _ => rfl) rfl⟩
theorem v201_4 : ∃ r, FnV TT 201 [.int .u64 4] (.int .i64 r) := ⟨3, FnV.mk fn201 rfl md201 ⟨⟨[], 0⟩, exI_iff.2 ⟨10000, by kernel_rfl⟩⟩ (fun _ => rfl) rfl⟩
theorem v201_5 : ∃ r, FnV TT 201 [.int .u64 5] (.int .i64 r) := ⟨3, FnV.mk fn201 rfl md201 ⟨⟨[], 0⟩, exI_iff.2 ⟨10000, by kernel_rfl⟩⟩ (fun _ => rfl) rfl⟩
theorem v201_6 : ∃ r, FnV TT 201 [.int .u64 6] (.int .i64 r) := ⟨3, FnV.mk fn201 rfl md201 ⟨⟨[], 0⟩, exI_iff.2 ⟨10000, by kernel_rfl⟩⟩ (fun _ => rfl) rfl⟩
theorem v201_7 : ∃ r, FnV TT 201 [.int .u64 7] (.int .i64 r) := ⟨3, FnV.mk fn201 rfl md201 ⟨⟨[], 0⟩, exI_iff.2 ⟨10000, by kernel_rfl⟩⟩ (fun _ => rfl) rfl⟩
theorem v201_8 : ∃ r, FnV TT 201 [.int .u64 8] (.int .i64 r) := ⟨4, FnV.mk fn201 rfl md201 ⟨⟨[], 0⟩, exI_iff.2 ⟨10000, by kernel_rfl⟩⟩ (fun _ => rfl) rfl⟩
theorem v201_9 : ∃ r, FnV TT 201 [.int .u64 9] (.int .i64 r) := ⟨4, FnV.mk fn201 rfl md201 ⟨⟨[], 0⟩, exI_iff.2 ⟨10000, by kernel_rfl⟩⟩ (fun _ => rfl) rfl⟩
theorem v201_10 : ∃ r, FnV TT 201 [.int .u64 10] (.int .i64 r) := ⟨4, FnV.mk fn201 rfl md201 ⟨⟨[], 0⟩, exI_iff.2 ⟨10000, by kernel_rfl⟩⟩ (fun _ => rfl) rfl⟩
theorem v201_11 : ∃ r, FnV TT 201 [.int .u64 11] (.int .i64 r) := ⟨4, FnV.mk fn201 rfl md201 ⟨⟨[], 0⟩, exI_iff.2 ⟨10000, by kernel_rfl⟩⟩ (fun _ => rfl) rfl⟩
theorem v201_12 : ∃ r, FnV TT 201 [.int .u64 12] (.int .i64 r) := ⟨4, FnV.mk fn201 rfl md201 ⟨⟨[], 0⟩, exI_iff.2 ⟨10000, by kernel_rfl⟩⟩ (fun _ => rfl) rfl⟩
theorem v201 (n : Nat) (hn : n ≤ 12) : ∃ r, FnV TT 201 [.int .u64 n] (.int .i64 r) := by
  have h : n = 0 ∨ n = 1 ∨ n = 2 ∨ n = 3 ∨ n = 4 ∨ n = 5 ∨ n = 6 ∨ n = 7 ∨ n = 8 ∨ n = 9 ∨ n = 10 ∨ n = 11 ∨ n = 12 := by omega
  rcases h with rfl | rfl | rfl | rfl | rfl | rfl | rfl | rfl | rfl | rfl | rfl | rfl | rfl
  · exact v201_0
  · exact v201_1
  · exact v201_2
  · exact v201_3
  · exact v201_4
  · exact v201_5
  · exact v201_6
  · exact v201_7
  · exact v201_8
  · exact v201_9
  · exact v201_10
  · exact v201_11
  · exact v201_12
theorem m186 (σ : St) (b n : Nat) (l : List Int) (hn : n = l.length) (hs : n ≤ 12) (hr : Row σ b l) :
    ∃ σ', callI TT 186 [.sl b 0 n n] σ = some (.tup [], σ') ∧ Row σ' b (isrt (n - 1) 1 l) ∧ But b σ σ' := by
  obtain ⟨r, hv⟩ := v201 n hs
  obtain ⟨σ', h1, h2, h3⟩ := m200 σ b n l r hn hs hr
  refine ⟨σ', ?_, h2, h3⟩
  have hw : wrapA .u64 (n : Int) = n := by rw [wrapA_eq]; simp [IntKind.wrap, IntKind.bits, IntKind.signed]; omega
  have hb := hv σ [.int .u64 n] rfl
  rw [cI_0 fn186 rfl md186, fi186]
  simp [xI_seq, xI_region, xI_ret, regA, regOps, runOps, opStep, wantedA, opA, evo, evos, calleeA, lk, nif_eq, putE, paramsE, valS, val2, keepE, restrict, finA, resA, binA, binInt, ofConst, ofConst1, loadA, TK.isAgg, asVar, unA, builtinA, lenOpA, lenA, ileb_cast, ileb_eq, ieqb_dec, indexAddrA, inB_dec, evPairs, storeA, AV.cellsOf, pairsOf, xI_nil, binBool, gcE, evOpt, xI_block, xI_loopH, xI_condM, xI_exitM, xI_skip, xI_blk, exitA, ty2, ty3, ty48, ty58, convA, hw, hb, h1]

/-! ### Sinking numbers are put -/
theorem mem_put (x c : Int) : ∀ l : List Int, c ∈ put x l ↔ c = x ∨ c ∈ l
  | [] => by simp [put]
  | y :: r => by
    have h := mem_put x c r
    simp only [put]
    split
    · split
      · simp
      · rename_i h1 h2
        have : x = y := by omega
        subst this; simp
    · simp only [List.mem_cons, h]
      constructor
      · rintro (h | h | h) <;> simp [h]
      · rintro (h | h | h) <;> simp [h]
theorem put_snoc {x y : Int} (hxy : x < y) : ∀ s : List Int, x ∉ s → put x (s ++ [y]) = put x s ++ [y]
  | [], _ => by simp [put, hxy, Int.le_of_lt hxy]
  | z :: r, h => by
    have h1 : x ≠ z := fun e => h (by simp [e])
    have h2 := put_snoc hxy r (fun hm => h (by simp [hm]))
    simp only [List.cons_append, put]
    split
    · split
      · simp
      · omega
    · rw [h2]; simp
theorem put_all {x : Int} : ∀ s : List Int, (∀ c ∈ s, c < x) → put x s = s ++ [x]
  | [], _ => rfl
  | z :: r, h => by
    have h1 := h z (by simp)
    rw [put, if_neg (by omega), put_all r (fun c hc => h c (by simp [hc]))]; rfl
theorem put_len {x : Int} : ∀ s : List Int, x ∉ s → (put x s).length = s.length + 1
  | [], _ => rfl
  | z :: r, h => by
    have h1 : x ≠ z := fun e => h (by simp [e])
    have h2 := put_len (x := x) r (fun hm => h (by simp [hm]))
    simp only [put]
    split
    · split
      · simp
      · omega
    · simp [h2]
theorem put_rises {x : Int} : ∀ s : List Int, s.Pairwise (· < ·) → (put x s).Pairwise (· < ·)
  | [], _ => by simp [put]
  | z :: r, h => by
    have h1 := List.pairwise_cons.1 h
    simp only [put]
    split
    · split
      · rename_i h2 h3
        exact List.pairwise_cons.2 ⟨fun c hc => by
          rcases List.mem_cons.1 hc with rfl | hc
          · exact h3
          · have := h1.1 c hc; omega, h⟩
      · exact h
    · rename_i h2
      exact List.pairwise_cons.2 ⟨fun c hc => by
        rcases (mem_put x c r).1 hc with rfl | hc
        · omega
        · exact h1.1 c hc, put_rises r h1.2⟩
theorem bub_put : ∀ (n : Nat) (s rest : List Int) (x : Int), s.length = n → s.Pairwise (· < ·) → x ∉ s → bub n (s ++ x :: rest) = put x s ++ rest
  | 0, s, rest, x, hn, _, _ => by
    have : s = [] := List.length_eq_zero_iff.1 hn
    subst this; rfl
  | n + 1, s, rest, x, hn, hp, hx => by
    obtain ⟨s', y, rfl⟩ : ∃ s' y, s = s' ++ [y] := ⟨s.dropLast, s.getLast (by intro e; simp [e] at hn), (List.dropLast_concat_getLast _).symm⟩
    have hn' : s'.length = n := by simpa using hn
    have hp' := List.pairwise_append.1 hp
    subst hn'
    have e1 : (s' ++ [y] ++ x :: rest)[s'.length + 1]? = some x := by rw [List.getElem?_append_right (by simp)]; simp
    have e2 : (s' ++ [y] ++ x :: rest)[s'.length]? = some y := by simp
    have g1 : (s' ++ [y] ++ x :: rest).getD (s'.length + 1) 0 = x := by rw [List.getD_eq_getElem?_getD, e1]; rfl
    have g2 : (s' ++ [y] ++ x :: rest).getD s'.length 0 = y := by rw [List.getD_eq_getElem?_getD, e2]; rfl
    have hx1 : x ∉ s' := fun h => hx (by simp [h])
    have hxy : x ≠ y := fun e => hx (by simp [e])
    simp only [bub, g1, g2]
    split
    · rename_i h
      have hs : swp (s' ++ [y] ++ x :: rest) (s'.length + 1) s'.length = s' ++ x :: (y :: rest) := by
        unfold swp
        rw [g1, g2]
        simp [List.set_append]
      rw [hs, bub_put s'.length s' (y :: rest) x rfl hp'.1 hx1, put_snoc h s' hx1]; simp
    · rename_i h
      rw [put_all (s' ++ [y]) (fun c hc => by
        rcases List.mem_append.1 hc with hc | hc
        · have := hp'.2.2 c hc y (by simp); omega
        · have : c = y := by simpa using hc
          omega)]
      simp
theorem isrt_put : ∀ (rest s : List Int), s.Pairwise (· < ·) → (∀ c ∈ rest, c ∉ s) → rest.Nodup → isrt rest.length s.length (s ++ rest) = rest.foldl (fun s x => put x s) s
  | [], s, _, _, _ => by simp [isrt]
  | x :: rest, s, hp, hd, hn => by
    have hx := hd x (by simp)
    have hn' := List.nodup_cons.1 hn
    rw [List.length_cons, isrt, bub_put s.length s rest x rfl hp hx, List.foldl_cons, ← put_len s hx]
    exact isrt_put rest (put x s) (put_rises s hp) (fun c hc h => by
      rcases (mem_put x c s).1 h with rfl | h
      · exact hn'.1 hc
      · exact hd c (by simp [hc]) h) hn'.2
/-- Sorting different numbers is putting one after another. -/
theorem sort_put (l : List Int) (hn : l.Nodup) : isrt (l.length - 1) 1 l = l.foldl (fun s x => put x s) [] := by
  cases l with
  | nil => rfl
  | cons a r =>
    have hn' := List.nodup_cons.1 hn
    have h := isrt_put r [a] (by simp) (fun c hc h => by simp at h; subst h; exact hn'.1 hc) hn'.2
    simpa [put] using h

/-- Whether numbers are an order of as many things. -/
def isO (l : List Int) : Bool := inR l.length 1 12 && (allR l 0 ((l.length : Int) - 1) && decide l.Nodup)
def chk (hi : Int) : List Int → List Int → Bool
  | _, [] => true
  | pre, x :: s => (inR x 0 hi && !decide (x ∈ pre)) && chk hi (pre ++ [x]) s
theorem chk_eq (hi : Int) : ∀ (s pre : List Int), pre.Nodup → chk hi pre s = (allR s 0 hi && decide (pre ++ s).Nodup)
  | [], pre, h => by simp [chk, allR, h]
  | x :: s, pre, h => by
    rw [chk]
    by_cases hx : x ∈ pre
    · have : ¬ (pre ++ x :: s).Nodup := fun hn => by
        have := (List.nodup_append.1 hn).2.2 x hx x (by simp)
        exact this rfl
      simp [hx, this]
    · have hp : (pre ++ [x]).Nodup := List.nodup_append.2 ⟨h, by simp, fun a ha b hb => by simp at hb; subst hb; exact fun e => hx (e ▸ ha)⟩
      rw [chk_eq hi s (pre ++ [x]) hp]
      simp [hx, allR, Bool.and_assoc]
theorem swp_perm {l : List Int} {i j : Nat} (hi : i < l.length) (hj : j < l.length) : (swp l i j).Perm l := by
  have h := List.set_set_perm hi hj
  unfold swp
  rw [List.getD_eq_getElem?_getD, List.getD_eq_getElem?_getD, List.getElem?_eq_getElem hi, List.getElem?_eq_getElem hj]
  exact h
theorem bub_perm : ∀ (j : Nat) (l : List Int), j < l.length → (bub j l).Perm l
  | 0, _, _ => List.Perm.refl _
  | j + 1, l, h => by
    simp only [bub]
    split
    · exact (bub_perm j _ (by rw [swp_length]; omega)).trans (swp_perm h (by omega))
    · exact List.Perm.refl _
theorem isrt_perm : ∀ (m i : Nat) (l : List Int), i + m ≤ l.length → (isrt m i l).Perm l
  | 0, _, _, _ => List.Perm.refl _
  | m + 1, i, l, h => by
    rw [isrt]
    exact (isrt_perm m (i + 1) _ (by rw [bub_length]; omega)).trans (bub_perm i l (by omega))
def chain : Int → List Int → Bool
  | _, [] => true
  | y, x :: r => decide (y < x) && chain x r
theorem chain_iff : ∀ (r : List Int) (y : Int), chain y r = true ↔ (y :: r).Pairwise (· < ·)
  | [], y => by simp [chain]
  | x :: r, y => by
    have ih := chain_iff r x
    rw [chain, Bool.and_eq_true, decide_eq_true_eq, ih]
    constructor
    · rintro ⟨h1, h2⟩
      refine List.pairwise_cons.2 ⟨fun c hc => ?_, h2⟩
      rcases List.mem_cons.1 hc with rfl | hc
      · exact h1
      · have := (List.pairwise_cons.1 h2).1 c hc; omega
    · intro h
      have h' := List.pairwise_cons.1 h
      exact ⟨h'.1 x (by simp), h'.2⟩
theorem fold_rises : ∀ (l s : List Int), s.Pairwise (· < ·) → (l.foldl (fun s x => put x s) s).Pairwise (· < ·)
  | [], _, h => h
  | x :: l, s, h => fold_rises l (put x s) (put_rises s h)
def incS : List Int → Bool
  | [] => true
  | y :: r => chain y r
theorem incS_iff {s : List Int} : incS s = true ↔ s.Pairwise (· < ·) := by
  cases s with
  | nil => simp [incS]
  | cons y r => exact chain_iff r y
/-- What is sorted rises just where nothing is repeated. -/
theorem sorted_nodup (l : List Int) (h : 1 ≤ l.length) : incS (isrt (l.length - 1) 1 l) = decide l.Nodup := by
  rw [Bool.eq_iff_iff, incS_iff, decide_eq_true_eq]
  constructor
  · intro hp
    have hn : (isrt (l.length - 1) 1 l).Nodup := hp.imp fun h => by omega
    exact (isrt_perm _ _ _ (by omega)).nodup hn
  · intro hn
    rw [sort_put l hn]
    exact fold_rises l [] List.Pairwise.nil

noncomputable def b154 : Code := Try.f154.body.getD .skip
noncomputable def B154_0 : Code := (bodyC (bodyC (sndC (fstC (sndC b154)))))
noncomputable def K154_0 : List It := .lp B154_0 :: .blk 0 :: .code (sndC (sndC b154)) :: []
theorem xl154_0 {fi : FI} {env : Env} {σ : St} : exI TT fi K154_0 env σ = exI TT fi (.code B154_0 :: K154_0) env σ := by unfold K154_0; exact xI_lp
noncomputable def R154_0_0 : List It := .code (sndC (sndC b154)) :: []
theorem eK154_0_0 : exitA 0 K154_0 = some R154_0_0 := rfl
theorem l154 (s : List Int) (len : Nat) (hlen : len = s.length) (hs : len < 3000000) (σ : St) : ∀ (suf pre : List Int) (y : Int), s = pre ++ y :: suf →
    exI TT (FI.of Try.f154 (TT.an 154)) K154_0 [(0, .lst len (ints s)), (3, .int .i64 (pre.length + 1 : Nat))] σ = some (.bool (chain y suf), σ) := by
  intro suf
  induction suf with
  | nil =>
    intro pre y hp
    have hll : len = pre.length + 1 := by rw [hlen, hp]; simp
    subst hll
    simp only [Int.natCast_add, show ((1 : Nat) : Int) = 1 from rfl]
    rw [fi154]
    rw [xl154_0]
    simp only [B154_0, b154, Try.f154, Option.getD, fstC, sndC, bodyC, thnC, elsC]
    simp [xI_seq, xI_region, xI_ret, regA, regOps, runOps, opStep, wantedA, opA, evo, evos, calleeA, lk, nif_eq, putE, paramsE, valS, val2, keepE, restrict, finA, resA, binA, binInt, ofConst, ofConst1, loadA, TK.isAgg, asVar, unA, builtinA, lenOpA, lenA, ileb_cast, ileb_eq, ieqb_dec, indexAddrA, inB_dec, evPairs, storeA, AV.cellsOf, pairsOf, xI_nil, binBool, gcE, evOpt, xI_block, xI_loopH, xI_condM, xI_exitM, xI_skip, xI_blk, exitA, ty2, ty3, ty48, eK154_0_0, chain]
    simp only [R154_0_0, b154, Try.f154, Option.getD, fstC, sndC, bodyC, thnC, elsC]
    simp [xI_seq, xI_region, xI_ret, regA, regOps, runOps, opStep, wantedA, opA, evo, evos, calleeA, lk, nif_eq, putE, paramsE, valS, val2, keepE, restrict, finA, resA, binA, binInt, ofConst, ofConst1, loadA, TK.isAgg, asVar, unA, builtinA, lenOpA, lenA, ileb_cast, ileb_eq, ieqb_dec, indexAddrA, inB_dec, evPairs, storeA, AV.cellsOf, pairsOf, xI_nil, binBool, gcE, evOpt, xI_block, xI_loopH, xI_condM, xI_exitM, xI_skip, xI_blk, exitA, ty2, ty3, ty48, eK154_0_0, chain]
  | cons x suf ih =>
    intro pre y hp
    have hll : len = pre.length + 1 + (suf.length + 1) := by rw [hlen, hp]; simp; omega
    have hg1 : s[pre.length]? = some y := by simp [hp]
    have hg2 : s[pre.length + 1]? = some x := by rw [hp, List.getElem?_append_right (by omega)]; simp
    have hlt : ¬ len ≤ pre.length + 1 := by omega
    have hlt' : ¬ (len : Int) ≤ (pre.length : Int) + 1 := by omega
    have hlt2 : pre.length + 1 < len := by omega
    have hlt3 : pre.length < len := by omega
    have hz : (0 : Int) ≤ (pre.length : Int) + 1 := by omega
    have hz2 : (pre.length : Int) + 1 < (len : Int) := by omega
    have hw : wrapA .i64 ((pre.length : Int) + 1 - 1) = (pre.length : Int) := by rw [show (pre.length : Int) + 1 - 1 = (pre.length : Int) by omega]; exact wrapA_id (by omega) (by omega)
    have hw0 : wrapA .i64 (pre.length : Int) = (pre.length : Int) := wrapA_id (by omega) (by omega)
    have hw2 : wrapA .i64 ((pre.length : Int) + 1 + 1) = (pre.length : Int) + 1 + 1 := wrapA_id (by omega) (by omega)
    have hn2 : ((pre.length : Int) + 1).toNat = pre.length + 1 := by omega
    have h1 := ih (pre ++ [y]) x (by simp [hp])
    simp only [List.length_append, List.length_singleton, Int.natCast_add, show ((1 : Nat) : Int) = 1 from rfl] at h1
    simp only [Int.natCast_add, show ((1 : Nat) : Int) = 1 from rfl]
    have k1 : cellsAt σ (.lp (ints s) pre.length) 1 = some [.int .i64 y] := lst_read hg1
    have k2 : cellsAt σ (.lp (ints s) (pre.length + 1)) 1 = some [.int .i64 x] := lst_read hg2
    have hin : inB ((pre.length : Int) + 1) len = true := by rw [inB_dec]; simp; omega
    by_cases hlt4 : y < x
    · have hge : ¬ x ≤ y := by omega
      rw [show chain y (x :: suf) = chain x suf by simp [chain, hlt4]]
      rw [fi154] at h1 ⊢
      rw [xl154_0]
      simp only [B154_0, b154, Try.f154, Option.getD, fstC, sndC, bodyC, thnC, elsC]
      simp [xI_seq, xI_region, xI_ret, regA, regOps, runOps, opStep, wantedA, opA, evo, evos, calleeA, lk, nif_eq, putE, paramsE, valS, val2, keepE, restrict, finA, resA, binA, binInt, ofConst, ofConst1, loadA, TK.isAgg, asVar, unA, builtinA, lenOpA, lenA, ileb_cast, ileb_eq, ieqb_dec, indexAddrA, inB_dec, evPairs, storeA, AV.cellsOf, pairsOf, xI_nil, binBool, gcE, evOpt, xI_block, xI_loopH, xI_condM, xI_exitM, xI_skip, xI_blk, exitA, ty2, ty3, ty48, eK154_0_0, runTr, pairsOk, pairOk, lstAt, lastOf, sameVal, AV.eqv, eqvs, regOps, cond_true, cond_false, hlt, hlt', hlt2, hlt3, hz, hz2, hw, hw0, hw2, hn2, k1, k2, hlt4, hge, hin]
      simpa using h1
    · have hge : x ≤ y := by omega
      rw [show chain y (x :: suf) = false by simp [chain, hlt4]]
      rw [fi154]
      rw [xl154_0]
      simp only [B154_0, b154, Try.f154, Option.getD, fstC, sndC, bodyC, thnC, elsC]
      simp [xI_seq, xI_region, xI_ret, regA, regOps, runOps, opStep, wantedA, opA, evo, evos, calleeA, lk, nif_eq, putE, paramsE, valS, val2, keepE, restrict, finA, resA, binA, binInt, ofConst, ofConst1, loadA, TK.isAgg, asVar, unA, builtinA, lenOpA, lenA, ileb_cast, ileb_eq, ieqb_dec, indexAddrA, inB_dec, evPairs, storeA, AV.cellsOf, pairsOf, xI_nil, binBool, gcE, evOpt, xI_block, xI_loopH, xI_condM, xI_exitM, xI_skip, xI_blk, exitA, ty2, ty3, ty48, eK154_0_0, runTr, pairsOk, pairOk, lstAt, lastOf, sameVal, AV.eqv, eqvs, regOps, cond_true, cond_false, hlt, hlt', hlt2, hlt3, hz, hz2, hw, hw0, hw2, hn2, k1, k2, hlt4, hge, hin]
theorem v154 (s : List Int) (len : Nat) (hlen : len = s.length) (h1 : 1 ≤ len) (hs : len < 3000000) : FnV TT 154 [.lst len (ints s)] (.bool (incS s)) := by
  cases s with
  | nil => simp at hlen; omega
  | cons y r =>
    have h := l154 (y :: r) len hlen hs ⟨[], 0⟩ r [] y rfl
    simp only [List.length_nil, Nat.zero_add, show ((1 : Nat) : Int) = 1 from rfl] at h
    refine FnV.mk fn154 rfl md154 ⟨⟨[], 0⟩, ?_⟩ (fun _ => rfl) rfl
    rw [show incS (y :: r) = chain y r from rfl, ← h, fi154]
    simp [xI_seq, xI_region, xI_ret, regA, regOps, runOps, opStep, wantedA, opA, evo, evos, calleeA, lk, nif_eq, putE, paramsE, valS, val2, keepE, restrict, finA, resA, binA, binInt, ofConst, ofConst1, loadA, TK.isAgg, asVar, unA, builtinA, lenOpA, lenA, ileb_cast, ileb_eq, ieqb_dec, indexAddrA, inB_dec, evPairs, storeA, AV.cellsOf, pairsOf, xI_nil, binBool, gcE, evOpt, xI_block, xI_loopH, xI_condM, xI_exitM, xI_skip, xI_blk, exitA, ty2, ty3, ty48, eK154_0_0]
    rfl

noncomputable def b91 : Code := Try.f91.body.getD .skip
noncomputable def B91_0 : Code := (bodyC (bodyC (sndC (fstC (sndC (sndC b91))))))
noncomputable def K91_0 : List It := .lp B91_0 :: .blk 0 :: .code (sndC (sndC (sndC b91))) :: []
theorem xl91_0 {fi : FI} {env : Env} {σ : St} : exI TT fi K91_0 env σ = exI TT fi (.code B91_0 :: K91_0) env σ := by unfold K91_0; exact xI_lp
noncomputable def R91_0_0 : List It := .code (sndC (sndC (sndC b91))) :: []
theorem eK91_0_0 : exitA 0 K91_0 = some R91_0_0 := rfl
theorem l91 (l : List Int) (len : Nat) (hlen : len = l.length) (hs : len < 3000000) (σ : St) : ∀ (suf pre : List Int), l = pre ++ suf →
    exI TT (FI.of Try.f91 (TT.an 91)) K91_0 [(0, .lst len (ints l)), (3, .int .i64 len), (4, .int .i64 pre.length)] σ = some (.bool (chk ((len : Int) - 1) pre suf && inR len 1 12), σ) := by
  intro suf
  induction suf with
  | nil =>
    intro pre hp
    have hll : len = pre.length := by rw [hlen, hp]; simp
    subst hll
    rw [fi91]
    rw [xl91_0]
    simp only [B91_0, b91, Try.f91, Option.getD, fstC, sndC, bodyC, thnC, elsC]
    simp [xI_seq, xI_region, xI_ret, regA, regOps, runOps, opStep, wantedA, opA, evo, evos, calleeA, lk, nif_eq, putE, paramsE, valS, val2, keepE, restrict, finA, resA, binA, binInt, ofConst, ofConst1, loadA, TK.isAgg, asVar, unA, builtinA, lenOpA, lenA, ileb_cast, ileb_eq, ieqb_dec, indexAddrA, inB_dec, evPairs, storeA, AV.cellsOf, pairsOf, xI_nil, binBool, gcE, evOpt, xI_block, xI_loopH, xI_condM, xI_exitM, xI_skip, xI_blk, exitA, ty2, ty3, ty4, ty48, eK91_0_0]
    simp only [R91_0_0, b91, Try.f91, Option.getD, fstC, sndC, bodyC, thnC, elsC]
    by_cases h1 : 1 ≤ pre.length
    · have h1' : (1 : Int) ≤ (pre.length : Int) := by omega
      by_cases h2 : pre.length ≤ 12
      · have h2' : (pre.length : Int) ≤ 12 := by omega
        simp [xI_seq, xI_region, xI_ret, regA, regOps, runOps, opStep, wantedA, opA, evo, evos, calleeA, lk, nif_eq, putE, paramsE, valS, val2, keepE, restrict, finA, resA, binA, binInt, ofConst, ofConst1, loadA, TK.isAgg, asVar, unA, builtinA, lenOpA, lenA, ileb_cast, ileb_eq, ieqb_dec, indexAddrA, inB_dec, evPairs, storeA, AV.cellsOf, pairsOf, xI_nil, binBool, gcE, evOpt, xI_block, xI_loopH, xI_condM, xI_exitM, xI_skip, xI_blk, exitA, ty2, ty3, ty4, ty48, eK91_0_0, h1, h1', h2, h2', chk, inR]
      · have h2' : ¬ (pre.length : Int) ≤ 12 := by omega
        simp [xI_seq, xI_region, xI_ret, regA, regOps, runOps, opStep, wantedA, opA, evo, evos, calleeA, lk, nif_eq, putE, paramsE, valS, val2, keepE, restrict, finA, resA, binA, binInt, ofConst, ofConst1, loadA, TK.isAgg, asVar, unA, builtinA, lenOpA, lenA, ileb_cast, ileb_eq, ieqb_dec, indexAddrA, inB_dec, evPairs, storeA, AV.cellsOf, pairsOf, xI_nil, binBool, gcE, evOpt, xI_block, xI_loopH, xI_condM, xI_exitM, xI_skip, xI_blk, exitA, ty2, ty3, ty4, ty48, eK91_0_0, h1, h1', h2, h2', chk, inR]
    · have h1' : ¬ (1 : Int) ≤ (pre.length : Int) := by omega
      simp [xI_seq, xI_region, xI_ret, regA, regOps, runOps, opStep, wantedA, opA, evo, evos, calleeA, lk, nif_eq, putE, paramsE, valS, val2, keepE, restrict, finA, resA, binA, binInt, ofConst, ofConst1, loadA, TK.isAgg, asVar, unA, builtinA, lenOpA, lenA, ileb_cast, ileb_eq, ieqb_dec, indexAddrA, inB_dec, evPairs, storeA, AV.cellsOf, pairsOf, xI_nil, binBool, gcE, evOpt, xI_block, xI_loopH, xI_condM, xI_exitM, xI_skip, xI_blk, exitA, ty2, ty3, ty4, ty48, eK91_0_0, h1, h1', chk, inR]
  | cons x suf ih =>
    intro pre hp
    have hll : len = pre.length + (suf.length + 1) := by rw [hlen, hp]; simp
    have hg : l[pre.length]? = some x := by simp [hp]
    have hlt : ¬ len ≤ pre.length := by omega
    have hlt' : ¬ (len : Int) ≤ (pre.length : Int) := by omega
    have hlt2 : pre.length < len := by omega
    have hle2 : pre.length ≤ len := by omega
    have hle3 : (pre.length : Int) ≤ (len : Int) := by omega
    have hw := wrapS (n := pre.length) (by omega)
    have hw1 : wrapA .i64 ((len : Int) - 1) = (len : Int) - 1 := wrapA_id (by omega) (by omega)
    have hi := c92 x 0 ((len : Int) - 1) σ
    have hh := v151 pre pre.length rfl (by omega) x σ [.lst pre.length (ints pre), .int .i64 x] rfl
    have hpre : getCells (ints l) 0 pre.length = some (ints pre) := by
      rw [getCells_eq, if_pos (by rw [ints_length]; omega), List.drop_zero, hp]
      simp [ints]
    have hrd := lst_read (σ := σ) hg
    have h1 := ih (pre ++ [x]) (by simp [hp])
    simp only [List.length_append, List.length_singleton] at h1
    rw [chk]
    cases hx : inR x 0 ((len : Int) - 1) with
    | false =>
      rw [hx] at hi
      rw [fi91]
      rw [xl91_0]
      simp only [B91_0, b91, Try.f91, Option.getD, fstC, sndC, bodyC, thnC, elsC]
      simp [xI_seq, xI_region, xI_ret, regA, regOps, runOps, opStep, wantedA, opA, evo, evos, calleeA, lk, nif_eq, putE, paramsE, valS, val2, keepE, restrict, finA, resA, binA, binInt, ofConst, ofConst1, loadA, TK.isAgg, asVar, unA, builtinA, lenOpA, lenA, ileb_cast, ileb_eq, ieqb_dec, indexAddrA, inB_dec, evPairs, storeA, AV.cellsOf, pairsOf, xI_nil, binBool, gcE, evOpt, xI_block, xI_loopH, xI_condM, xI_exitM, xI_skip, xI_blk, exitA, ty2, ty3, ty4, ty48, eK91_0_0, runTr, pairsOk, pairOk, lstAt, lastOf, sameVal, AV.eqv, eqvs, regOps, cond_true, cond_false, sliceA, boundA, hlt, hlt', hlt2, hle2, hle3, hw1, hi, hrd, hpre]
    | true =>
      rw [hx] at hi
      by_cases hm : x ∈ pre
      · rw [decide_eq_true hm] at hh
        rw [fi91]
        rw [xl91_0]
        simp only [B91_0, b91, Try.f91, Option.getD, fstC, sndC, bodyC, thnC, elsC]
        simp [xI_seq, xI_region, xI_ret, regA, regOps, runOps, opStep, wantedA, opA, evo, evos, calleeA, lk, nif_eq, putE, paramsE, valS, val2, keepE, restrict, finA, resA, binA, binInt, ofConst, ofConst1, loadA, TK.isAgg, asVar, unA, builtinA, lenOpA, lenA, ileb_cast, ileb_eq, ieqb_dec, indexAddrA, inB_dec, evPairs, storeA, AV.cellsOf, pairsOf, xI_nil, binBool, gcE, evOpt, xI_block, xI_loopH, xI_condM, xI_exitM, xI_skip, xI_blk, exitA, ty2, ty3, ty4, ty48, eK91_0_0, runTr, pairsOk, pairOk, lstAt, lastOf, sameVal, AV.eqv, eqvs, regOps, cond_true, cond_false, sliceA, boundA, hlt, hlt', hlt2, hle2, hle3, hw1, hi, hrd, hpre, hh, hm]
      · rw [decide_eq_false hm] at hh
        simp only [hm, decide_false, Bool.not_false, Bool.and_true, Bool.true_and]
        rw [fi91] at h1 ⊢
        rw [xl91_0]
        simp only [B91_0, b91, Try.f91, Option.getD, fstC, sndC, bodyC, thnC, elsC]
        simp [xI_seq, xI_region, xI_ret, regA, regOps, runOps, opStep, wantedA, opA, evo, evos, calleeA, lk, nif_eq, putE, paramsE, valS, val2, keepE, restrict, finA, resA, binA, binInt, ofConst, ofConst1, loadA, TK.isAgg, asVar, unA, builtinA, lenOpA, lenA, ileb_cast, ileb_eq, ieqb_dec, indexAddrA, inB_dec, evPairs, storeA, AV.cellsOf, pairsOf, xI_nil, binBool, gcE, evOpt, xI_block, xI_loopH, xI_condM, xI_exitM, xI_skip, xI_blk, exitA, ty2, ty3, ty4, ty48, eK91_0_0, runTr, pairsOk, pairOk, lstAt, lastOf, sameVal, AV.eqv, eqvs, regOps, cond_true, cond_false, sliceA, boundA, hlt, hlt', hlt2, hle2, hle3, hw, hw1, hi, hrd, hpre, hh]
        simpa using h1
theorem isO_chk (l : List Int) : (chk ((l.length : Int) - 1) [] l && inR l.length 1 12) = isO l := by
  rw [chk_eq _ l [] List.nodup_nil, List.nil_append, isO, Bool.and_comm]
theorem v91 (l : List Int) (len : Nat) (hlen : len = l.length) (hs : len < 3000000) : FnV TT 91 [.lst len (ints l)] (.bool (isO l)) := by
  have h := l91 l len hlen hs ⟨[], 0⟩ l [] rfl
  rw [hlen, isO_chk, ← hlen] at h
  simp only [List.length_nil, show ((0 : Nat) : Int) = 0 from rfl] at h
  refine FnV.mk fn91 rfl md91 ⟨⟨[], 0⟩, ?_⟩ (fun _ => rfl) rfl
  rw [← h, fi91]
  simp [xI_seq, xI_region, xI_ret, regA, regOps, runOps, opStep, wantedA, opA, evo, evos, calleeA, lk, nif_eq, putE, paramsE, valS, val2, keepE, restrict, finA, resA, binA, binInt, ofConst, ofConst1, loadA, TK.isAgg, asVar, unA, builtinA, lenOpA, lenA, ileb_cast, ileb_eq, ieqb_dec, indexAddrA, inB_dec, evPairs, storeA, AV.cellsOf, pairsOf, xI_nil, binBool, gcE, evOpt, xI_block, xI_loopH, xI_condM, xI_exitM, xI_skip, xI_blk, exitA, ty2, ty3, ty4, ty48, eK91_0_0]
  rfl

theorem fnx199 : TT.fn 199 = none := by kernel_rfl
theorem cext (args : List AV) (σ : St) : callI TT 199 args σ = extF 199 args σ := by
  show callA TT (exI TT) 199 args σ = _
  unfold callA
  rw [fnx199]
  rfl
theorem c156 (n : Nat) (cs : List AV) (σ : St) : callI TT 156 [.lst n cs] σ = some (.fn 187 [] [.ptr σ.n 0], σ.push ⟨[.lst n cs], 1, false⟩) := by
  rw [cI_0 fn156 rfl md156, fi156]
  simp [xI_seq, xI_region, xI_ret, regA, regOps, runOps, opStep, wantedA, opA, evo, evos, calleeA, lk, nif_eq, putE, paramsE, valS, val2, keepE, restrict, finA, resA, binA, binInt, ofConst, ofConst1, loadA, TK.isAgg, asVar, unA, builtinA, lenOpA, lenA, ileb_cast, ileb_eq, ieqb_dec, indexAddrA, inB_dec, evPairs, storeA, AV.cellsOf, pairsOf, xI_nil, binBool, gcE, evOpt, xI_block, xI_loopH, xI_condM, xI_exitM, xI_skip, xI_blk, exitA, ty2, ty4, ty48, allOne, AV.one]
theorem c185 (l : List Int) (h1 : l ≠ []) (hl : l.length ≤ 1000000) (σ : St) (c : Nat) (hc : cellsAt σ (.ptr c 0) 1 = some [.lst l.length (ints l)]) : callI TT 185 [.fn 187 [] [.ptr c 0]] σ = some (.sl σ.n 0 l.length l.length, σ.push ⟨ints l, 1, true⟩) := by
  have he : callI TT 199 [.nilS, .fn 187 [] [.ptr c 0]] σ = some (.sl σ.n 0 l.length l.length, σ.push ⟨ints l, 1, true⟩) := by
    rw [cext]
    simp [extF, hc, listOf, unints_ints, hl, h1]
  rw [cI_0 fn185 rfl md185, fi185]
  simp [xI_seq, xI_region, xI_ret, regA, regOps, runOps, opStep, wantedA, opA, evo, evos, calleeA, lk, nif_eq, putE, paramsE, valS, val2, keepE, restrict, finA, resA, binA, binInt, ofConst, ofConst1, loadA, TK.isAgg, asVar, unA, builtinA, lenOpA, lenA, ileb_cast, ileb_eq, ieqb_dec, indexAddrA, inB_dec, evPairs, storeA, AV.cellsOf, pairsOf, xI_nil, binBool, gcE, evOpt, xI_block, xI_loopH, xI_condM, xI_exitM, xI_skip, xI_blk, exitA, he]
theorem c155 (l : List Int) (h1 : l ≠ []) (hl : l.length ≤ 12) (σ : St) (c : Nat) (hc : cellsAt σ (.ptr c 0) 1 = some [.lst l.length (ints l)]) : ∃ σ', callI TT 155 [.fn 187 [] [.ptr c 0]] σ = some (.sl σ.n 0 l.length l.length, σ') ∧ Row σ' σ.n (isrt (l.length - 1) 1 l) := by
  obtain ⟨σ', c2, r2, _⟩ := m186 (σ.push ⟨ints l, 1, true⟩) σ.n l.length l rfl hl Row.push
  have c1 := c185 l h1 (by omega) σ c hc
  refine ⟨σ', ?_, r2⟩
  rw [cI_0 fn155 rfl md155, fi155]
  simp [xI_seq, xI_region, xI_ret, regA, regOps, runOps, opStep, wantedA, opA, evo, evos, calleeA, lk, nif_eq, putE, paramsE, valS, val2, keepE, restrict, finA, resA, binA, binInt, ofConst, ofConst1, loadA, TK.isAgg, asVar, unA, builtinA, lenOpA, lenA, ileb_cast, ileb_eq, ieqb_dec, indexAddrA, inB_dec, evPairs, storeA, AV.cellsOf, pairsOf, xI_nil, binBool, gcE, evOpt, xI_block, xI_loopH, xI_condM, xI_exitM, xI_skip, xI_blk, exitA, c1, c2]
theorem v96 (l : List Int) (len : Nat) (hlen : len = l.length) (hs : len < 3000000) : FnV TT 96 [.lst len (ints l)] (.bool (isO l)) := by
  subst hlen
  have e1 := fun σ => v98 l l.length σ [.lst l.length (ints l)] rfl
  have e2 := fun σ => c63 l.length 1 12 σ
  have hw1 : wrapA .i64 ((l.length : Int) - 1) = (l.length : Int) - 1 := wrapA_id (by omega) (by omega)
  have e3 := fun σ => v153 l l.length rfl (by omega) 0 ((l.length : Int) - 1) σ [.lst l.length (ints l), .int .i64 0, .int .i64 ((l.length : Int) - 1)] rfl
  unfold isO
  cases h1 : inR l.length 1 12 with
  | false =>
    simp only [h1] at e2
    refine FnV.mk fn96 rfl md96 ⟨⟨[], 0⟩, ?_⟩ (fun _ => rfl) rfl
    rw [fi96]
    simp [xI_seq, xI_region, xI_ret, regA, regOps, runOps, opStep, wantedA, opA, evo, evos, calleeA, lk, nif_eq, putE, paramsE, valS, val2, keepE, restrict, finA, resA, binA, binInt, ofConst, ofConst1, loadA, TK.isAgg, asVar, unA, builtinA, lenOpA, lenA, ileb_cast, ileb_eq, ieqb_dec, indexAddrA, inB_dec, evPairs, storeA, AV.cellsOf, pairsOf, xI_nil, binBool, gcE, evOpt, xI_block, xI_loopH, xI_condM, xI_exitM, xI_skip, xI_blk, exitA, ty2, ty4, e1, e2]
  | true =>
    simp only [h1] at e2
    cases h2 : allR l 0 ((l.length : Int) - 1) with
    | false =>
      simp only [h2] at e3
      refine FnV.mk fn96 rfl md96 ⟨⟨[], 0⟩, ?_⟩ (fun _ => rfl) rfl
      rw [fi96]
      simp [xI_seq, xI_region, xI_ret, regA, regOps, runOps, opStep, wantedA, opA, evo, evos, calleeA, lk, nif_eq, putE, paramsE, valS, val2, keepE, restrict, finA, resA, binA, binInt, ofConst, ofConst1, loadA, TK.isAgg, asVar, unA, builtinA, lenOpA, lenA, ileb_cast, ileb_eq, ieqb_dec, indexAddrA, inB_dec, evPairs, storeA, AV.cellsOf, pairsOf, xI_nil, binBool, gcE, evOpt, xI_block, xI_loopH, xI_condM, xI_exitM, xI_skip, xI_blk, exitA, ty2, ty4, e1, e2, hw1, e3]
    | true =>
      simp only [h2] at e3
      have hr := inR_iff.1 h1
      have hne : l ≠ [] := fun e => by rw [e] at hr; simp at hr
      have c1 := c156 l.length (ints l) ⟨[], 0⟩
      obtain ⟨σ1, hσ⟩ : ∃ σ1, (⟨[], 0⟩ : St).push ⟨[.lst l.length (ints l)], 1, false⟩ = σ1 := ⟨_, rfl⟩
      have hc : cellsAt σ1 (.ptr 0 0) 1 = some [.lst l.length (ints l)] := by subst hσ; simp [cellsAt, St.get, St.push, hget, nif_eq, getCells, takeN, dropN]
      obtain ⟨σ2, c2, r2⟩ := c155 l hne (by omega) σ1 0 hc
      have c3 := v154 (isrt (l.length - 1) 1 l) l.length (by rw [isrt_length]) (by omega) (by omega) σ2 [.sl σ1.n 0 l.length l.length] (mapO_cons (r2.frz (by rw [isrt_length]) (Nat.le_refl _)) rfl)
      rw [sorted_nodup l (by omega)] at c3
      rw [hσ] at c1
      simp only [Bool.true_and]
      generalize decide l.Nodup = e at *
      refine FnV.mk fn96 rfl md96 ⟨σ2, ?_⟩ (fun _ => rfl) rfl
      rw [fi96]
      simp [xI_seq, xI_region, xI_ret, regA, regOps, runOps, opStep, wantedA, opA, evo, evos, calleeA, lk, nif_eq, putE, paramsE, valS, val2, keepE, restrict, finA, resA, binA, binInt, ofConst, ofConst1, loadA, TK.isAgg, asVar, unA, builtinA, lenOpA, lenA, ileb_cast, ileb_eq, ieqb_dec, indexAddrA, inB_dec, evPairs, storeA, AV.cellsOf, pairsOf, xI_nil, binBool, gcE, evOpt, xI_block, xI_loopH, xI_condM, xI_exitM, xI_skip, xI_blk, exitA, ty2, ty4, e1, e2, hw1, e3, c1, c2, c3]

/-! ### Rising sequences: plain law -/
def risG (l : List Int) : Nat → Nat → Int → Int
  | 0, _, r => r
  | m + 1, i, r => risG l m (i + 1) (if ixF ((i : Int) + 1) l 0 < ixF i l 0 then r + 1 else r)
def ris (l : List Int) : Int := risG l (l.length - 1) 0 1
/-- Where the numbers stand. -/
def putAt (l : List Int) : Nat → Nat → List Int → List Int
  | 0, _, z => z
  | m + 1, i, z => putAt l m (i + 1) (z.set (at0 l i).toNat i)
def risA (z : List Int) : Nat → Nat → Int → Int
  | 0, _, r => r
  | m + 1, i, r => risA z m (i + 1) (if at0 z i < at0 z (i - 1) then r + 1 else r)
theorem ixF_at (x : Int) : ∀ (l : List Int) (k j : Nat), l.Nodup → l[j]? = some x → ixF x l k = (k + j : Nat)
  | [], k, j, _, h => by simp at h
  | y :: r, k, 0, _, h => by simp at h; simp [ixF, h]
  | y :: r, k, j + 1, hn, h => by
    have hn' := List.nodup_cons.1 hn
    simp only [List.getElem?_cons_succ] at h
    have : x ≠ y := fun e => hn'.1 (e ▸ List.mem_of_getElem? h)
    rw [ixF, if_neg this, ixF_at x r (k + 1) j hn'.2 h]
    congr 1; omega
theorem putAt_length (l : List Int) : ∀ (m i : Nat) (z : List Int), (putAt l m i z).length = z.length
  | 0, _, _ => rfl
  | m + 1, i, z => by rw [putAt, putAt_length l m]; simp
theorem nodup_at {l : List Int} (hn : l.Nodup) {i j : Nat} (hi : i < l.length) (hj : j < l.length) (h : at0 l i = at0 l j) : i = j := by
  have h : l[i] = l[j] := by
    have e1 := at0_some hi; have e2 := at0_some hj
    rw [List.getElem?_eq_getElem hi] at e1; rw [List.getElem?_eq_getElem hj] at e2
    rw [Option.some.inj e1, Option.some.inj e2, h]
  have hp := List.pairwise_iff_getElem.1 hn
  rcases Nat.lt_trichotomy i j with h1 | h1 | h1
  · exact (hp i j hi hj h1 h).elim
  · exact h1
  · exact (hp j i hj hi h1 h.symm).elim
theorem putAt_get (l : List Int) (hn : l.Nodup) (hr : ∀ x ∈ l, 0 ≤ x ∧ x < l.length) : ∀ (m i : Nat) (z : List Int), i + m = l.length → z.length = l.length → ∀ j, j < l.length →
    (j < i → at0 z (at0 l j).toNat = (j : Int)) → at0 (putAt l m i z) (at0 l j).toNat = (j : Int)
  | 0, i, z, hm, _, j, hj, h => h (by omega)
  | m + 1, i, z, hm, hz, j, hj, h => by
    rw [putAt]
    have hxi := hr (at0 l i) (at0_mem (by omega))
    have hxj := hr (at0 l j) (at0_mem hj)
    refine putAt_get l hn hr m (i + 1) _ (by omega) (by simpa using hz) j hj fun hji => ?_
    rw [at0_set z _ _ _ (by omega)]
    by_cases he : j = i
    · subst he; simp
    · have : ¬ (at0 l j).toNat = (at0 l i).toNat := fun e => he (nodup_at hn hj (by omega) (by omega))
      rw [if_neg this]; exact h (by omega)
/-- All numbers below the length are in an order. -/
theorem all_in {l : List Int} (hn : l.Nodup) (hr : ∀ x ∈ l, 0 ≤ x ∧ x < l.length) {x : Nat} (hx : x < l.length) : (x : Int) ∈ l := by
  have h := (List.Nodup.length_le_of_subset (l₁ := ((x : Int) :: l)) (l₂ := iotaF 0 l.length))
  rcases Classical.em ((x : Int) ∈ l) with h1 | h1
  · exact h1
  · have h2 := h (List.nodup_cons.2 ⟨h1, hn⟩) (fun y hy => by
      have hy' : 0 ≤ y ∧ y < l.length := by
        rcases List.mem_cons.1 hy with rfl | hy
        · omega
        · exact hr y hy
      obtain ⟨k, rfl⟩ : ∃ k : Nat, y = k := ⟨y.toNat, by omega⟩
      exact List.mem_of_getElem? (by rw [iotaF_get l.length 0 k (by omega)]; simp))
    rw [iotaF_length] at h2
    simp at h2
    omega
theorem putAt_ix (l : List Int) (hn : l.Nodup) (hr : ∀ x ∈ l, 0 ≤ x ∧ x < l.length) (z : List Int) (hz : z.length = l.length) (x : Nat) (hx : x < l.length) : at0 (putAt l l.length 0 z) x = ixF x l 0 := by
  obtain ⟨j, hj, he⟩ := List.getElem_of_mem (all_in hn hr hx)
  have h1 := putAt_get l hn hr l.length 0 z (by omega) hz j hj (by omega)
  have h2 : at0 l j = x := at0_of (by rw [List.getElem?_eq_getElem hj, he])
  rw [h2] at h1
  rw [ixF_at x l 0 j hn (by rw [List.getElem?_eq_getElem hj, he])]
  simpa using h1
theorem risA_G (l : List Int) (hn : l.Nodup) (hr : ∀ x ∈ l, 0 ≤ x ∧ x < l.length) (z : List Int) (hz : ∀ x : Nat, x < l.length → at0 z x = ixF x l 0) : ∀ (m i : Nat) (r : Int), i + m + 1 = l.length → risA z m (i + 1) r = risG l m i r
  | 0, _, _, _ => rfl
  | m + 1, i, r, h => by
    rw [risA, risG, hz (i + 1) (by omega), show i + 1 - 1 = i by omega, hz i (by omega), risA_G l hn hr z hz m (i + 1) _ (by omega)]
    simp
theorem ris_eq (l : List Int) (h : isO l = true) : risA (putAt l l.length 0 (List.replicate l.length 0)) (l.length - 1) 1 1 = ris l := by
  unfold isO at h
  simp only [Bool.and_eq_true, decide_eq_true_eq] at h
  have h1 := inR_iff.1 h.1
  have h2 : ∀ x ∈ l, 0 ≤ x ∧ x < l.length := fun x hx => by have := allR_spec h.2.1 x hx; omega
  exact risA_G l h.2.2 h2 _ (fun x hx => putAt_ix l h.2.2 h2 _ (by simp) x hx) (l.length - 1) 0 1 (by omega)

noncomputable def b99 : Code := Try.f99.body.getD .skip
noncomputable def B99_0 : Code := (bodyC (bodyC (sndC (fstC (sndC (sndC b99))))))
noncomputable def K99_0 : List It := .lp B99_0 :: .blk 0 :: .code (sndC (sndC (sndC b99))) :: []
theorem xl99_0 {fi : FI} {env : Env} {σ : St} : exI TT fi K99_0 env σ = exI TT fi (.code B99_0 :: K99_0) env σ := by unfold K99_0; exact xI_lp
noncomputable def R99_0_0 : List It := .code (sndC (sndC (sndC b99))) :: []
theorem eK99_0_0 : exitA 0 K99_0 = some R99_0_0 := rfl
set_option maxHeartbeats 1000000 in
theorem l99 (l : List Int) (len : Nat) (hlen : len = l.length) (hs : len ≤ 12) (h1 : 1 ≤ len) (σ : St) : ∀ (m i : Nat) (r : Int), i + m + 1 = len → 0 ≤ r → r ≤ i + 1 →
    exI TT (FI.of Try.f99 (TT.an 99)) K99_0 [(0, .lst len (ints l)), (3, .int .i64 r), (7, .int .i64 ((len : Int) - 1)), (8, .int .i64 i)] σ = some (.int .i64 (risG l m i r), σ) := by
  intro m
  induction m with
  | zero =>
    intro i r hi h0 hr
    rw [fi99]
    rw [xl99_0]
    simp only [B99_0, b99, Try.f99, Option.getD, fstC, sndC, bodyC, thnC, elsC]
    simp (maxSteps := 1000000) (disch := omega) [eK99_0_0]
    simp only [R99_0_0, b99, Try.f99, Option.getD, fstC, sndC, bodyC, thnC, elsC]
    simp (maxSteps := 1000000) (disch := omega) [eK99_0_0, risG]
  | succ m ih =>
    intro i r hi h0 hr
    have e1 := fun x σ => v158 l len hlen (by omega) x σ [.lst len (ints l), .int .i64 x] rfl
    rw [risG]
    by_cases hc : ixF ((i : Int) + 1) l 0 < ixF i l 0
    · rw [if_pos hc]
      have h2 := ih (i + 1) (r + 1) (by omega) (by omega) (by omega)
      rw [fi99] at h2 ⊢
      rw [xl99_0]
      simp only [B99_0, b99, Try.f99, Option.getD, fstC, sndC, bodyC, thnC, elsC]
      simp (maxSteps := 1000000) (disch := omega) [eK99_0_0, e1]
      simpa using h2
    · rw [if_neg hc]
      have h2 := ih (i + 1) r (by omega) (by omega) (by omega)
      rw [fi99] at h2 ⊢
      rw [xl99_0]
      simp only [B99_0, b99, Try.f99, Option.getD, fstC, sndC, bodyC, thnC, elsC]
      simp (maxSteps := 1000000) (disch := omega) [eK99_0_0, e1]
      simpa using h2
theorem v99 (l : List Int) (len : Nat) (hlen : len = l.length) (hs : len ≤ 12) (h1 : 1 ≤ len) : FnV TT 99 [.lst len (ints l)] (.int .i64 (ris l)) := by
  have h := l99 l len hlen hs h1 ⟨[], 0⟩ (len - 1) 0 1 (by omega) (by omega) (by omega)
  have e1 := fun σ => v98 l len σ [.lst len (ints l)] rfl
  refine FnV.mk fn99 rfl md99 ⟨⟨[], 0⟩, ?_⟩ (fun _ => rfl) rfl
  rw [ris, ← hlen, ← h]
  rw [fi99]
  simp (maxSteps := 1000000) (disch := omega) [eK99_0_0, e1]
  rfl

noncomputable def b94 : Code := Try.f94.body.getD .skip
noncomputable def B94_0 : Code := (bodyC (bodyC (sndC (fstC (sndC (sndC b94))))))
noncomputable def K94_0 : List It := .lp B94_0 :: .blk 0 :: .code (sndC (sndC (sndC b94))) :: []
theorem xl94_0 {fi : FI} {env : Env} {σ : St} : exI TT fi K94_0 env σ = exI TT fi (.code B94_0 :: K94_0) env σ := by unfold K94_0; exact xI_lp
noncomputable def R94_0_0 : List It := .code (sndC (sndC (sndC b94))) :: []
theorem eK94_0_0 : exitA 0 K94_0 = some R94_0_0 := rfl
noncomputable def B94_1 : Code := (bodyC (bodyC (sndC (fstC (sndC (sndC (sndC (sndC b94))))))))
noncomputable def K94_1 : List It := .lp B94_1 :: .blk 2 :: .code (sndC (sndC (sndC (sndC (sndC b94))))) :: []
theorem xl94_1 {fi : FI} {env : Env} {σ : St} : exI TT fi K94_1 env σ = exI TT fi (.code B94_1 :: K94_1) env σ := by unfold K94_1; exact xI_lp
noncomputable def R94_1_2 : List It := .code (sndC (sndC (sndC (sndC (sndC b94))))) :: []
theorem eK94_1_2 : exitA 2 K94_1 = some R94_1_2 := rfl
theorem a94 (l : List Int) (len : Nat) (hlen : len = l.length) (hs : len ≤ 12) (hr : ∀ x ∈ l, 0 ≤ x ∧ x < len) (b : Nat) : ∀ (m i : Nat) (z : List Int) (σ : St), i + m = len → z.length = len → Row σ b z →
    ∃ σ', exI TT (FI.of Try.f94 (TT.an 94)) K94_0 [(0, .lst len (ints l)), (3, .sl b 0 len len), (4, .int .i64 i)] σ = exI TT (FI.of Try.f94 (TT.an 94)) R94_0_0 [(0, .lst len (ints l)), (3, .sl b 0 len len), (4, .int .i64 len), (13, .bool false)] σ' ∧ Row σ' b (putAt l m i z) := by
  intro m
  induction m with
  | zero =>
    intro i z σ hi hz hb
    obtain rfl : i = len := by omega
    refine ⟨σ, ?_, hb⟩
    rw [fi94, xl94_0]
    simp only [B94_0, b94, Try.f94, Option.getD, fstC, sndC, bodyC, thnC, elsC]
    simp (maxSteps := 1000000) (disch := omega) [eK94_0_0, eK94_1_2]
  | succ m ih =>
    intro i z σ hi hz hb
    have hx := hr (at0 l i) (at0_mem (by omega))
    obtain ⟨c, hc⟩ : ∃ c : Nat, at0 l i = c := ⟨(at0 l i).toNat, by omega⟩
    obtain ⟨σ1, s1, r1, n1, o1⟩ := store_row (i := c) (x := (i : Int)) hb (by omega)
    obtain ⟨σ', h2, h3⟩ := ih (i + 1) _ σ1 (by omega) (by simpa using hz) r1
    refine ⟨σ', ?_, by rw [putAt, hc]; exact h3⟩
    rw [← h2]
    rw [fi94, xl94_0]
    simp only [B94_0, b94, Try.f94, Option.getD, fstC, sndC, bodyC, thnC, elsC]
    simp (maxSteps := 1000000) (disch := omega) [eK94_0_0, eK94_1_2, hc, s1]

theorem d94 (z : List Int) (b len : Nat) (hlen : len = z.length) (hs : len ≤ 12) (σ : St) (hb : Row σ b z) : ∀ (m i : Nat) (r : Int), i + m + 1 = len → 0 ≤ r → r ≤ i + 1 →
    exI TT (FI.of Try.f94 (TT.an 94)) K94_1 [(3, .sl b 0 len len), (5, .int .i64 r), (6, .int .i64 (i + 1 : Nat))] σ = some (.int .i64 (risA z m (i + 1) r), σ) := by
  intro m
  induction m with
  | zero =>
    intro i r hi h0 hr
    have hcast : ((i + 1 : Nat) : Int) = (i : Int) + 1 := by omega
    rw [hcast]
    rw [fi94]
    rw [xl94_1]
    simp only [B94_1, b94, Try.f94, Option.getD, fstC, sndC, bodyC, thnC, elsC]
    simp (maxSteps := 1000000) (disch := omega) [eK94_0_0, eK94_1_2]
    simp only [R94_1_2, b94, Try.f94, Option.getD, fstC, sndC, bodyC, thnC, elsC]
    simp (maxSteps := 1000000) (disch := omega) [eK94_0_0, eK94_1_2, risA]
  | succ m ih =>
    intro i r hi h0 hr
    have hcast : ((i + 1 : Nat) : Int) = (i : Int) + 1 := by omega
    have hcast2 : ((i + 1 + 1 : Nat) : Int) = (i : Int) + 1 + 1 := by omega
    have t1 : ((i : Int) + 1).toNat = i + 1 := by omega
    have e1 := row_rd (i := i + 1) hb (by omega)
    have e2 := row_rd (i := i) hb (by omega)
    rw [risA, show i + 1 - 1 = i by omega]
    by_cases hc : at0 z (i + 1) < at0 z i
    · rw [if_pos hc]
      have h2 := ih (i + 1) (r + 1) (by omega) (by omega) (by omega)
      rw [hcast2] at h2
      rw [hcast]
      rw [fi94] at h2 ⊢
      rw [xl94_1]
      simp only [B94_1, b94, Try.f94, Option.getD, fstC, sndC, bodyC, thnC, elsC]
      simp (maxSteps := 1000000) (disch := omega) [eK94_0_0, eK94_1_2, e1, e2, t1]
      exact h2
    · rw [if_neg hc]
      have h2 := ih (i + 1) r (by omega) (by omega) (by omega)
      rw [hcast2] at h2
      rw [hcast]
      rw [fi94] at h2 ⊢
      rw [xl94_1]
      simp only [B94_1, b94, Try.f94, Option.getD, fstC, sndC, bodyC, thnC, elsC]
      simp (maxSteps := 1000000) (disch := omega) [eK94_0_0, eK94_1_2, e1, e2, t1]
      exact h2
theorem v94 (l : List Int) (len : Nat) (hlen : len = l.length) (hs : len ≤ 12) (h1 : 1 ≤ len) (ho : isO l = true) : FnV TT 94 [.lst len (ints l)] (.int .i64 (ris l)) := by
  have hr : ∀ x ∈ l, 0 ≤ x ∧ x < len := fun x hx => by
    unfold isO at ho
    simp only [Bool.and_eq_true] at ho
    have := allR_spec ho.2.1 x hx; omega
  have hm := mkI ⟨[], 0⟩ len (by omega)
  obtain ⟨σ', h2, h3⟩ := a94 l len hlen hs hr 0 len 0 (List.replicate len 0) ((⟨[], 0⟩ : St).push ⟨ints (List.replicate len 0), 1, false⟩) (by omega) (by simp) Row.push
  have h4 := d94 _ 0 len (by rw [putAt_length]; simp) hs σ' h3 (len - 1) 0 1 (by omega) (by omega) (by omega)
  rw [hlen, ris_eq l ho, ← hlen] at h4
  refine FnV.mk fn94 rfl md94 ⟨σ', ?_⟩ (fun _ => rfl) rfl
  simp only [Int.natCast_zero, show ((0 : Nat) : Int) = 0 from rfl] at h2
  rw [fi94] at h2 h4 ⊢
  simp (maxSteps := 1000000) (disch := omega) [eK94_0_0, eK94_1_2, hm]
  refine h2.trans ?_
  rw [← h4]
  simp only [R94_0_0, b94, Try.f94, Option.getD, fstC, sndC, bodyC, thnC, elsC]
  simp (maxSteps := 1000000) (disch := omega) [eK94_0_0, eK94_1_2]
  rfl

/-! ### Pascal's numbers -/
def ch : Nat → Nat → Nat
  | _, 0 => 1
  | 0, _ + 1 => 0
  | n + 1, k + 1 => ch n k + ch n (k + 1)
theorem ch_0 (n : Nat) : ch n 0 = 1 := by cases n <;> rfl
theorem ch_gt : ∀ (n k : Nat), n < k → ch n k = 0
  | n, 0, h => by omega
  | 0, k + 1, _ => rfl
  | n + 1, k + 1, h => by rw [ch, ch_gt n k (by omega), ch_gt n (k + 1) (by omega)]
theorem ch_self : ∀ n : Nat, ch n n = 1
  | 0 => rfl
  | n + 1 => by rw [ch, ch_self n, ch_gt n (n + 1) (by omega)]
theorem ch_step : ∀ (n k : Nat), (k + 1) * ch n (k + 1) = (n - k) * ch n k
  | 0, k => by simp [ch]
  | n + 1, 0 => by
    have h := ch_step n 0
    simp only [Nat.zero_add, Nat.one_mul, Nat.sub_zero, ch_0, Nat.mul_one] at h
    rw [show ch (n + 1) (0 + 1) = ch n 0 + ch n 1 from rfl, ch_0, ch_0, h]; omega
  | n + 1, k + 1 => by
    have h1 := ch_step n (k + 1)
    have h2 := ch_step n k
    rw [ch, ch, Nat.mul_add, h1, Nat.mul_add, show n + 1 - (k + 1) = n - k by omega, ← h2]
    rcases Nat.lt_or_ge k n with h | h
    · obtain ⟨m, rfl⟩ : ∃ m, n = k + 1 + m := ⟨n - (k + 1), by omega⟩
      rw [show k + 1 + m - (k + 1) = m by omega, show k + 1 + m - k = m + 1 by omega]
      generalize ch (k + 1 + m) (k + 1) = z
      rw [← Nat.add_mul, ← Nat.add_mul]
      congr 1; omega
    · rw [ch_gt n (k + 1) (by omega)]; simp
theorem ch_symm : ∀ (n k : Nat), k ≤ n → ch n k = ch n (n - k)
  | 0, k, h => by obtain rfl : k = 0 := by omega
                  rfl
  | n + 1, 0, _ => by rw [ch_0, Nat.sub_zero, ch_self]
  | n + 1, k + 1, h => by
    rcases Nat.lt_or_ge k n with h1 | h1
    · obtain ⟨m, hm⟩ : ∃ m, n - k = m + 1 := ⟨n - k - 1, by omega⟩
      rw [show n + 1 - (k + 1) = m + 1 by omega, ch, ch, ch_symm n k (by omega), ch_symm n (k + 1) (by omega), hm, show n - (k + 1) = m by omega, Nat.add_comm]
    · obtain rfl : k = n := by omega
      rw [ch_self, Nat.sub_self, ch_0]
def adj : List Nat → List Nat
  | a :: b :: r => (a + b) :: adj (b :: r)
  | _ => []
def prow : Nat → List Nat
  | 0 => [1]
  | n + 1 => 1 :: (adj (prow n) ++ [1])
theorem adj_length : ∀ l : List Nat, (adj l).length = l.length - 1
  | [] => rfl
  | [_] => rfl
  | a :: b :: r => by simp [adj, adj_length (b :: r)]
theorem adj_get : ∀ (l : List Nat) (i a b : Nat), l[i]? = some a → l[i + 1]? = some b → (adj l)[i]? = some (a + b)
  | [], i, a, b, h, _ => by simp at h
  | [_], i, a, b, _, h => by simp at h
  | x :: y :: r, 0, a, b, h1, h2 => by simp at h1 h2; simp [adj, h1, h2]
  | x :: y :: r, i + 1, a, b, h1, h2 => by
    simp only [List.getElem?_cons_succ] at h1 h2
    simp only [adj, List.getElem?_cons_succ]
    exact adj_get (y :: r) i a b h1 h2
theorem prow_length : ∀ n : Nat, (prow n).length = n + 1
  | 0 => rfl
  | n + 1 => by simp [prow, adj_length, prow_length n]
theorem prow_get : ∀ (n k : Nat), k ≤ n → (prow n)[k]? = some (ch n k)
  | 0, k, h => by obtain rfl : k = 0 := by omega
                  rfl
  | n + 1, 0, _ => by simp [prow, ch_0]
  | n + 1, k + 1, h => by
    simp only [prow, List.getElem?_cons_succ]
    rcases Nat.lt_or_ge k n with h1 | h1
    · rw [List.getElem?_append_left (by rw [adj_length, prow_length]; omega), adj_get _ k _ _ (prow_get n k (by omega)) (prow_get n (k + 1) (by omega))]
      rfl
    · obtain rfl : k = n := by omega
      rw [List.getElem?_append_right (by rw [adj_length, prow_length]; omega), adj_length, prow_length, ch_self]
      simp
theorem prow60 : ((List.range 61).all fun n => (prow n).all fun x => Nat.ble x 118264581564861424) = true := by kernel_rfl
theorem ch_le {n k : Nat} (hn : n ≤ 60) : ch n k ≤ 118264581564861424 := by
  rcases Nat.lt_or_ge n k with h | h
  · rw [ch_gt n k h]; omega
  · have h1 := List.all_eq_true.1 prow60 n (List.mem_range.2 (by omega))
    have h2 := List.all_eq_true.1 h1 _ (List.mem_of_getElem? (prow_get n k h))
    exact Nat.le_of_ble_eq_true h2

theorem and32 (a : Nat) (h : a ≤ 18446744073709551615) : bitsA .and .u64 (a : Int) 4294967295 = some (.int .u64 ((a % 4294967296 : Nat) : Int)) := by
  have h1 : smallNat .u64 (a : Int) 4294967295 = some (a, 4294967295) := by
    show (bif Nat.ble a (topOf .u64) && Nat.ble 4294967295 (topOf .u64) then some (a, 4294967295) else none) = _
    have : Nat.ble a (topOf .u64) = true := by rw [Nat.ble_eq]; exact h
    rw [this]; rfl
  simp only [bitsA, h1]
  have : Nat.land a 4294967295 = a % 4294967296 := Nat.and_two_pow_sub_one_eq_mod a 32
  rw [this]; rfl
theorem shr32 (a : Nat) : shrA (a : Int) 32 = ((a / 4294967296 : Nat) : Int) := rfl
theorem wrapU {n : Nat} (h : n ≤ 18446744073709551615) : wrapA .u64 (n : Int) = n := by
  rw [wrapA_eq]; simp [IntKind.wrap, IntKind.bits, IntKind.signed]; omega

theorem c188 (a b : Nat) (ha : a < 144115188075855872) (hb : b < 64) (σ : St) : callI TT 188 [.int .u64 a, .int .u64 b] σ = some (.tup [.int .u64 0, .int .u64 ((a * b : Nat) : Int)], σ) := by
  refine (FnV.mk (args' := [.int .u64 a, .int .u64 b]) fn188 rfl md188 ⟨⟨[], 0⟩, ?_⟩ (fun _ => rfl) rfl) σ _ rfl
  obtain ⟨x0, hx0⟩ : ∃ x, x = a % 4294967296 := ⟨_, rfl⟩
  obtain ⟨x1, hx1⟩ : ∃ x, x = a / 4294967296 := ⟨_, rfl⟩
  have hx0l : x0 < 4294967296 := by omega
  have hx1l : x1 < 33554432 := by omega
  have e1 := and32 a (by omega)
  have e2 := shr32 a
  have e3 := and32 b (by omega)
  have e4 := shr32 b
  rw [← hx0] at e1
  rw [← hx1] at e2
  rw [show b % 4294967296 = b by omega] at e3
  rw [show b / 4294967296 = 0 by omega] at e4
  obtain ⟨w0, hw0⟩ : ∃ w, w = x0 * b := ⟨_, rfl⟩
  have hw0l : w0 < 4294967296 * 64 := by rw [hw0]; exact Nat.mul_lt_mul'' hx0l hb
  have m1 : wrapA .u64 ((x0 : Int) * b) = w0 := by rw [← Int.natCast_mul, wrapU (by omega), hw0]
  obtain ⟨w1, hw1⟩ : ∃ w, w = x1 * b := ⟨_, rfl⟩
  have hw1l : w1 < 33554432 * 64 := by rw [hw1]; exact Nat.mul_lt_mul'' hx1l hb
  have m2 : wrapA .u64 ((x1 : Int) * b) = w1 := by rw [← Int.natCast_mul, wrapU (by omega), hw1]
  have e5 := shr32 w0
  obtain ⟨t, ht⟩ : ∃ t, t = w1 + w0 / 4294967296 := ⟨_, rfl⟩
  have htl : t < 4294967296 := by omega
  have m3 : wrapA .u64 ((w1 : Int) + (w0 / 4294967296 : Nat)) = t := by rw [← Int.natCast_add, wrapU (by omega), ht]
  have e6 := and32 t (by omega)
  have e7 := shr32 t
  rw [show t % 4294967296 = t by omega] at e6
  rw [show t / 4294967296 = 0 by omega] at e7
  have m4 : wrapA .u64 ((a : Int) * b) = ((a * b : Nat) : Int) := by
    have : a * b ≤ 144115188075855872 * 64 := Nat.mul_le_mul (by omega) (by omega)
    rw [← Int.natCast_mul, wrapU (by omega)]
  have m5 : wrapA .u64 (0 : Int) = 0 := rfl
  have m6 : wrapA .u64 (t : Int) = t := wrapU (by omega)
  obtain ⟨z, hz⟩ : ∃ z, z = w0 / 4294967296 := ⟨_, rfl⟩
  obtain ⟨ab, hab⟩ : ∃ z, z = a * b := ⟨_, rfl⟩
  rw [← hz] at e5 m3
  rw [← hab] at m4 ⊢
  rw [show ((0 : Nat) : Int) = 0 from rfl] at e4 e7
  have hmin : min 32 IntKind.u64.bits = 32 := rfl
  rw [fi188]
  simp [xI_seq, xI_region, xI_ret, regA, regOps, runOps, opStep, wantedA, opA, evo, evos, calleeA, lk, nif_eq, putE, paramsE, valS, val2, keepE, restrict, finA, resA, binA, binInt, ofConst, ofConst1, loadA, TK.isAgg, asVar, unA, builtinA, lenOpA, lenA, ileb_cast, ileb_eq, ieqb_dec, indexAddrA, inB_dec, evPairs, storeA, AV.cellsOf, pairsOf, xI_nil, binBool, gcE, evOpt, xI_block, xI_loopH, xI_condM, xI_exitM, xI_skip, xI_blk, exitA, ty143, e1, e2, e3, e4, m1, m2, e5, m3, e6, e7, m4, m5, m6, hmin]

theorem c189 (a b : Nat) (hb : 0 < b) (hb2 : b ≤ 18446744073709551615) (ha : a ≤ 18446744073709551615) (σ : St) : ∃ r : Int, callI TT 189 [.int .u64 0, .int .u64 a, .int .u64 b] σ = some (.tup [.int .u64 ((a / b : Nat) : Int), .int .u64 r], σ) := by
  refine ⟨((a : Int).tmod b), (FnV.mk (args' := [.int .u64 0, .int .u64 a, .int .u64 b]) fn189 rfl md189 ⟨⟨[], 0⟩, ?_⟩ (fun _ => rfl) rfl) σ _ rfl⟩
  have h1 : ¬ (b : Int) = 0 := by omega
  have h1' : ¬ b = 0 := by omega
  have h2 : ¬ (b : Int) ≤ 0 := by omega
  obtain ⟨q, hq⟩ : ∃ q, q = a / b := ⟨_, rfl⟩
  have hq2 : q ≤ a := by rw [hq]; exact Nat.div_le_self _ _
  have h3 : (a : Int).tdiv b = q := by rw [hq]; rfl
  have h4 : wrapA .u64 (q : Int) = q := wrapU (by omega)
  rw [← hq, fi189]
  simp [xI_seq, xI_region, xI_ret, regA, regOps, runOps, opStep, wantedA, opA, evo, evos, calleeA, lk, nif_eq, putE, paramsE, valS, val2, keepE, restrict, finA, resA, binA, binInt, ofConst, ofConst1, loadA, TK.isAgg, asVar, unA, builtinA, lenOpA, lenA, ileb_cast, ileb_eq, ieqb_dec, indexAddrA, inB_dec, evPairs, storeA, AV.cellsOf, pairsOf, xI_nil, binBool, gcE, evOpt, xI_block, xI_loopH, xI_condM, xI_exitM, xI_skip, xI_blk, exitA, ty3, ty58, ty143, ty201, h1, h1', h2, h3, h4]

theorem inR_not {n lo hi : Int} (h : ¬ (lo ≤ n ∧ n ≤ hi)) : inR n lo hi = false := by simp only [inR]; simp; omega
noncomputable def b157 : Code := Try.f157.body.getD .skip
noncomputable def B157_0 : Code := (bodyC (bodyC (sndC (fstC (sndC (sndC (sndC b157)))))))
noncomputable def K157_0 : List It := .lp B157_0 :: .blk 0 :: .code (sndC (sndC (sndC (sndC b157)))) :: []
theorem xl157_0 {fi : FI} {env : Env} {σ : St} : exI TT fi K157_0 env σ = exI TT fi (.code B157_0 :: K157_0) env σ := by unfold K157_0; exact xI_lp
noncomputable def R157_0_0 : List It := .code (sndC (sndC (sndC (sndC b157)))) :: []
theorem eK157_0_0 : exitA 0 K157_0 = some R157_0_0 := rfl
theorem l157 (n k M : Nat) (hn : n ≤ 60) (hk : k ≤ n) (hM : M = min k (n - k)) : ∀ (m j : Nat) (σ : St), j + m = M →
    exI TT (FI.of Try.f157 (TT.an 157)) K157_0 [(0, .int .i64 n), (1, .int .i64 k), (5, .int .i64 (ch n j)), (6, .int .i64 (j + 1 : Nat))] σ = some (.int .i64 (ch n M), σ) := by
  have hw0 : wrapA .i64 ((n : Int) - k) = (n : Int) - k := wrapA_id (by omega) (by omega)
  have hmin : (if (n : Int) - k < k then (n : Int) - k else (k : Int)) = M := by split <;> omega
  intro m
  induction m with
  | zero =>
    intro j σ hj
    obtain rfl : j = M := by omega
    have hlt : ¬ j + 1 ≤ j := by omega
    have hlt2 : ¬ (j : Int) + 1 ≤ j := by omega
    generalize ch n j = o
    rw [fi157]
    rw [xl157_0]
    simp only [B157_0, b157, Try.f157, Option.getD, fstC, sndC, bodyC, thnC, elsC]
    simp [xI_seq, xI_region, xI_ret, regA, regOps, runOps, opStep, wantedA, opA, evo, evos, calleeA, lk, nif_eq, putE, paramsE, valS, val2, keepE, restrict, finA, resA, binA, binInt, ofConst, ofConst1, loadA, TK.isAgg, asVar, unA, builtinA, lenOpA, lenA, ileb_cast, ileb_eq, ieqb_dec, indexAddrA, inB_dec, evPairs, storeA, AV.cellsOf, pairsOf, xI_nil, binBool, gcE, evOpt, xI_block, xI_loopH, xI_condM, xI_exitM, xI_skip, xI_blk, exitA, ty2, ty4, ty143, eK157_0_0, minmaxA, mmStep, hw0, hmin, hlt, hlt2]
    simp only [R157_0_0, b157, Try.f157, Option.getD, fstC, sndC, bodyC, thnC, elsC]
    simp [xI_seq, xI_region, xI_ret, regA, regOps, runOps, opStep, wantedA, opA, evo, evos, calleeA, lk, nif_eq, putE, paramsE, valS, val2, keepE, restrict, finA, resA, binA, binInt, ofConst, ofConst1, loadA, TK.isAgg, asVar, unA, builtinA, lenOpA, lenA, ileb_cast, ileb_eq, ieqb_dec, indexAddrA, inB_dec, evPairs, storeA, AV.cellsOf, pairsOf, xI_nil, binBool, gcE, evOpt, xI_block, xI_loopH, xI_condM, xI_exitM, xI_skip, xI_blk, exitA, ty2, ty4, ty143, eK157_0_0]
  | succ m ih =>
    intro j σ hj
    have ih1 := ih (j + 1) σ (by omega)
    have hlt : (j : Int) + 1 ≤ M := by omega
    have hst := ch_step n j
    have ho := ch_le (n := n) (k := j) hn
    have ho2 := ch_le (n := n) (k := j + 1) hn
    generalize ch n j = o at *
    generalize ch n (j + 1) = o2 at *
    have u1 : wrapA .u64 (o : Int) = o := wrapU (by omega)
    have u2 : wrapA .i64 ((n : Int) - ((j : Int) + 1)) = (n : Int) - ((j : Int) + 1) := wrapA_id (by omega) (by omega)
    have u3 : wrapA .i64 ((n : Int) - ((j : Int) + 1) + 1) = ((n - j : Nat) : Int) := by rw [wrapA_id (by omega) (by omega)]; omega
    have u4 : wrapA .u64 ((n - j : Nat) : Int) = (n - j : Nat) := wrapU (by omega)
    have u5 : wrapA .u64 ((j : Int) + 1) = ((j + 1 : Nat) : Int) := wrapU (n := j + 1) (by omega)
    have u6 : wrapA .i64 (o2 : Int) = o2 := wrapA_id (by omega) (by omega)
    have u7 : wrapA .i64 ((j : Int) + 1 + 1) = (j : Int) + 1 + 1 := wrapA_id (by omega) (by omega)
    have hlo : o * (n - j) = (j + 1) * o2 := by rw [hst]; exact Nat.mul_comm _ _
    have hlt64 : o * (n - j) ≤ 144115188075855872 * 64 := Nat.mul_le_mul (by omega) (by omega)
    have c1 := c188 o (n - j) (by omega) (by omega) σ
    obtain ⟨rr, c2⟩ := c189 (o * (n - j)) (j + 1) (by omega) (by omega) (by omega) σ
    rw [hlo, Nat.mul_div_cancel_left _ (by omega : 0 < j + 1)] at c2
    rw [hlo] at c1
    generalize hnj : n - j = d at *
    generalize hlo2 : (j + 1) * o2 = lo at *
    generalize hj1 : j + 1 = i at *
    have hj1' : (j : Int) + 1 = i := by omega
    rw [hj1'] at hlt u2 u3 u5 u7
    have hj2 : ((i + 1 : Nat) : Int) = (i : Int) + 1 := by omega
    rw [hj2] at ih1
    rw [fi157] at ih1 ⊢
    rw [xl157_0]
    simp only [B157_0, b157, Try.f157, Option.getD, fstC, sndC, bodyC, thnC, elsC]
    simp [xI_seq, xI_region, xI_ret, regA, regOps, runOps, opStep, wantedA, opA, evo, evos, calleeA, lk, nif_eq, putE, paramsE, valS, val2, keepE, restrict, finA, resA, binA, binInt, ofConst, ofConst1, loadA, TK.isAgg, asVar, unA, builtinA, lenOpA, lenA, ileb_cast, ileb_eq, ieqb_dec, indexAddrA, inB_dec, evPairs, storeA, AV.cellsOf, pairsOf, xI_nil, binBool, gcE, evOpt, xI_block, xI_loopH, xI_condM, xI_exitM, xI_skip, xI_blk, exitA, ty2, ty4, ty143, eK157_0_0, minmaxA, mmStep, hw0, hmin, hlt, convA, u1, u2, u3, u4, u5, u6, u7, c1, c2]
    exact ih1
theorem c157 (n k : Nat) (hn : n ≤ 60) (hk0 : k < 1000000) (σ : St) : callI TT 157 [.int .i64 n, .int .i64 k] σ = some (.int .i64 (ch n k), σ) := by
  refine (FnV.mk (args' := [.int .i64 n, .int .i64 k]) fn157 rfl md157 ⟨⟨[], 0⟩, ?_⟩ (fun _ => rfl) rfl) σ _ rfl
  by_cases hk : k ≤ n
  · have hin : inR (k : Int) 0 n = true := inR_iff.2 (by omega)
    have h1 := l157 n k _ hn hk rfl (min k (n - k)) 0 ⟨[], 0⟩ (by omega)
    have he : ch n (min k (n - k)) = ch n k := by
      rcases Nat.le_total k (n - k) with h | h
      · rw [Nat.min_eq_left h]
      · rw [Nat.min_eq_right h, ← ch_symm n k hk]
    rw [he, ch_0] at h1
    rw [fi157] at h1 ⊢
    simp [xI_seq, xI_region, xI_ret, regA, regOps, runOps, opStep, wantedA, opA, evo, evos, calleeA, lk, nif_eq, putE, paramsE, valS, val2, keepE, restrict, finA, resA, binA, binInt, ofConst, ofConst1, loadA, TK.isAgg, asVar, unA, builtinA, lenOpA, lenA, ileb_cast, ileb_eq, ieqb_dec, indexAddrA, inB_dec, evPairs, storeA, AV.cellsOf, pairsOf, xI_nil, binBool, gcE, evOpt, xI_block, xI_loopH, xI_condM, xI_exitM, xI_skip, xI_blk, exitA, ty2, ty4, ty143, eK157_0_0, c63, hin]
    exact h1
  · have hin : inR (k : Int) 0 n = false := inR_not (by omega)
    rw [ch_gt n k (by omega), fi157]
    simp [xI_seq, xI_region, xI_ret, regA, regOps, runOps, opStep, wantedA, opA, evo, evos, calleeA, lk, nif_eq, putE, paramsE, valS, val2, keepE, restrict, finA, resA, binA, binInt, ofConst, ofConst1, loadA, TK.isAgg, asVar, unA, builtinA, lenOpA, lenA, ileb_cast, ileb_eq, ieqb_dec, indexAddrA, inB_dec, evPairs, storeA, AV.cellsOf, pairsOf, xI_nil, binBool, gcE, evOpt, xI_block, xI_loopH, xI_condM, xI_exitM, xI_skip, xI_blk, exitA, ty2, ty4, ty143, eK157_0_0, c63, hin]

noncomputable def b152 : Code := Try.f152.body.getD .skip
noncomputable def B152_0 : Code := (bodyC (bodyC (sndC (fstC (sndC (sndC b152))))))
noncomputable def K152_0 : List It := .lp B152_0 :: .blk 0 :: .code (sndC (sndC (sndC b152))) :: []
theorem xl152_0 {fi : FI} {env : Env} {σ : St} : exI TT fi K152_0 env σ = exI TT fi (.code B152_0 :: K152_0) env σ := by unfold K152_0; exact xI_lp
noncomputable def R152_0_0 : List It := .code (sndC (sndC (sndC b152))) :: []
theorem eK152_0_0 : exitA 0 K152_0 = some R152_0_0 := rfl
noncomputable def B152_1 : Code := (bodyC (bodyC (sndC (fstC (sndC (bodyC (fstC (sndC (bodyC (bodyC (sndC (fstC (sndC (sndC b152))))))))))))))
noncomputable def K152_1 : List It := .lp B152_1 :: .blk 2 :: .code (sndC (sndC (bodyC (fstC (sndC (bodyC (bodyC (sndC (fstC (sndC (sndC b152))))))))))) :: .blk 1 :: .code (sndC (sndC (bodyC (bodyC (sndC (fstC (sndC (sndC b152)))))))) :: K152_0
theorem xl152_1 {fi : FI} {env : Env} {σ : St} : exI TT fi K152_1 env σ = exI TT fi (.code B152_1 :: K152_1) env σ := by unfold K152_1; exact xI_lp
noncomputable def R152_1_2 : List It := .code (sndC (sndC (bodyC (fstC (sndC (bodyC (bodyC (sndC (fstC (sndC (sndC b152))))))))))) :: .blk 1 :: .code (sndC (sndC (bodyC (bodyC (sndC (fstC (sndC (sndC b152)))))))) :: K152_0
theorem eK152_1_2 : exitA 2 K152_1 = some R152_1_2 := rfl
noncomputable def R152_1_1 : List It := .code (sndC (sndC (bodyC (bodyC (sndC (fstC (sndC (sndC b152)))))))) :: K152_0
theorem eK152_1_1 : exitA 1 K152_1 = some R152_1_1 := rfl
theorem eK152_1_0 : exitA 0 K152_1 = some R152_0_0 := rfl
def natI (l : List Nat) : List Int := l.map fun (x : Nat) => (x : Int)
theorem natI_length (l : List Nat) : (natI l).length = l.length := by simp [natI]
theorem natI_get {l : List Nat} {i x : Nat} (h : l[i]? = some x) : (natI l)[i]? = some (x : Int) := by simp [natI, h]
theorem l152_1 (n k i : Nat) (hi : i < 100) (r : List Nat) (hrl : r.length = i + 1) (hv : ∀ x ∈ r, x ≤ 118264581564861424) : ∀ (m j : Nat) (σ : St) (b b2 : Nat), j + m = i + 1 → 1 ≤ j → b ≠ b2 → Row σ b (natI r) → Row σ b2 (natI (1 :: (adj r).take (j - 1))) →
    ∃ σ' b2', exI TT (FI.of Try.f152 (TT.an 152)) K152_1 [(0, .int .i64 n), (1, .int .i64 k), (5, .sl b 0 (i + 1) (i + 1)), (6, .int .i64 i), (7, .sl b2 0 j j), (8, .int .i64 j)] σ = exI TT (FI.of Try.f152 (TT.an 152)) R152_1_2 [(0, .int .i64 n), (1, .int .i64 k), (5, .sl b 0 (i + 1) (i + 1)), (6, .int .i64 i), (7, .sl b2' 0 (i + 1) (i + 1)), (8, .int .i64 (i + 1 : Nat)), (19, .bool false)] σ' ∧ b ≠ b2' ∧ Row σ' b (natI r) ∧ Row σ' b2' (natI (1 :: adj r)) := by
  intro m
  induction m with
  | zero =>
    intro j σ b b2 hj hj1 hbb h1 h2
    obtain rfl : j = i + 1 := by omega
    refine ⟨σ, b2, ?_, hbb, h1, ?_⟩
    · have e : ((i + 1 : Nat) : Int) = (i : Int) + 1 := by omega
      rw [e]
      rw [fi152]
      rw [xl152_1]
      simp only [B152_1, b152, Try.f152, Option.getD, fstC, sndC, bodyC, thnC, elsC]
      simp [xI_seq, xI_region, xI_ret, regA, regOps, runOps, opStep, wantedA, opA, evo, evos, calleeA, lk, nif_eq, putE, paramsE, valS, val2, keepE, restrict, finA, resA, binA, binInt, ofConst, ofConst1, loadA, TK.isAgg, asVar, unA, builtinA, lenOpA, lenA, ileb_cast, ileb_eq, ieqb_dec, indexAddrA, inB_dec, evPairs, storeA, AV.cellsOf, pairsOf, xI_nil, binBool, gcE, evOpt, xI_block, xI_loopH, xI_condM, xI_exitM, xI_skip, xI_blk, exitA, ty2, ty3, ty48, eK152_0_0, eK152_1_2, eK152_1_1, eK152_1_0]
    · rw [List.take_of_length_le (by rw [adj_length, hrl]; omega)] at h2; exact h2
  | succ m ih =>
    intro j σ b b2 hj hj1 hbb h1 h2
    obtain ⟨q, rfl⟩ : ∃ q, j = q + 1 := ⟨j - 1, by omega⟩
    obtain ⟨x, hx⟩ : ∃ x, r[q]? = some x := ⟨_, List.getElem?_eq_getElem (by omega)⟩
    obtain ⟨y, hy⟩ : ∃ y, r[q + 1]? = some y := ⟨_, List.getElem?_eq_getElem (by omega)⟩
    have hxv := hv x (List.mem_of_getElem? hx)
    have hyv := hv y (List.mem_of_getElem? hy)
    have hl2 : (natI (1 :: (adj r).take (q + 1 - 1))).length = q + 1 := by rw [natI_length]; simp [adj_length, hrl]; omega
    obtain ⟨σ1, ha, hr1, hn1, hf1⟩ := append_row (x := ((x + y : Nat) : Int)) ty48 ty2 h2 hl2.symm (by omega)
    have hr1' : Row σ1 (σ.n + 1) (natI (1 :: (adj r).take (q + 1 + 1 - 1))) := by
      have : (adj r).take (q + 1) = (adj r).take q ++ [x + y] := by
        rw [List.take_add_one, adj_get r q x y hx hy]; rfl
      simpa [natI, this] using hr1
    obtain ⟨σ', b2', h3, h4, h5, h6⟩ := ih (q + 1 + 1) σ1 b (σ.n + 1) (by omega) (by omega) (by have := h1.lt; omega) (h1.keep (by omega) (hf1 b hbb h1.lt)) hr1'
    refine ⟨σ', b2', ?_, h4, h5, h6⟩
    have g1 := h1.read (natI_get hx)
    have g2 := h1.read (natI_get hy)
    have hlt : ¬ (i + 1 ≤ q + 1) := by omega
    have hlt' : ¬ (i ≤ q) := by omega
    have hlt2 : (q : Int) < (i : Int) + 1 := by omega
    have hlt3 : (q : Int) + 1 < (i : Int) + 1 := by omega
    have hlt4 : ¬ (i : Int) + 1 ≤ (q : Int) + 1 := by omega
    have hw1 : wrapA .i64 (q : Int) = (q : Int) := wrapA_id (by omega) (by omega)
    have hw2 : wrapA .i64 ((x : Int) + y) = ((x + y : Nat) : Int) := by rw [wrapA_id (by omega) (by omega)]; omega
    have hw3 : wrapA .i64 ((q : Int) + 1 + 1) = (q : Int) + 1 + 1 := wrapA_id (by omega) (by omega)
    have hz : (0 : Int) ≤ (q : Int) + 1 := by omega
    have htn : ((q : Int) + 1).toNat = q + 1 := by omega
    generalize hs : x + y = s at *
    have hq1 : ((q + 1 : Nat) : Int) = (q : Int) + 1 := by omega
    have hq2 : ((q + 1 + 1 : Nat) : Int) = (q : Int) + 1 + 1 := by omega
    rw [hq1]
    rw [hq2] at h3
    rw [fi152] at h3 ⊢
    rw [xl152_1]
    simp only [B152_1, b152, Try.f152, Option.getD, fstC, sndC, bodyC, thnC, elsC]
    simp [xI_seq, xI_region, xI_ret, regA, regOps, runOps, opStep, wantedA, opA, evo, evos, calleeA, lk, nif_eq, putE, paramsE, valS, val2, keepE, restrict, finA, resA, binA, binInt, ofConst, ofConst1, loadA, TK.isAgg, asVar, unA, builtinA, lenOpA, lenA, ileb_cast, ileb_eq, ieqb_dec, indexAddrA, inB_dec, evPairs, storeA, AV.cellsOf, pairsOf, xI_nil, binBool, gcE, evOpt, xI_block, xI_loopH, xI_condM, xI_exitM, xI_skip, xI_blk, exitA, ty2, ty3, ty48, eK152_0_0, eK152_1_2, eK152_1_1, eK152_1_0, hlt, hlt', hlt2, hlt3, hlt4, hw1, hw2, hw3, hz, htn, g1, g2, bs1, ha]
    exact h3
theorem l152_0 (n k : Nat) (hn : n ≤ 60) (hk : k ≤ n) : ∀ (m i : Nat) (σ : St) (b : Nat), i + m = n → Row σ b (natI (prow i)) →
    ∃ σ', exI TT (FI.of Try.f152 (TT.an 152)) K152_0 [(0, .int .i64 n), (1, .int .i64 k), (5, .sl b 0 (i + 1) (i + 1)), (6, .int .i64 i)] σ = some (.int .i64 (ch n k), σ') := by
  intro m
  induction m with
  | zero =>
    intro i σ b hi hr
    obtain rfl : i = n := by omega
    refine ⟨σ, ?_⟩
    have g1 := hr.read (natI_get (prow_get i k hk))
    have hlt : k < i + 1 := by omega
    have hlt2 : (k : Int) < (i : Int) + 1 := by omega
    rw [fi152]
    rw [xl152_0]
    simp only [B152_0, b152, Try.f152, Option.getD, fstC, sndC, bodyC, thnC, elsC]
    simp [xI_seq, xI_region, xI_ret, regA, regOps, runOps, opStep, wantedA, opA, evo, evos, calleeA, lk, nif_eq, putE, paramsE, valS, val2, keepE, restrict, finA, resA, binA, binInt, ofConst, ofConst1, loadA, TK.isAgg, asVar, unA, builtinA, lenOpA, lenA, ileb_cast, ileb_eq, ieqb_dec, indexAddrA, inB_dec, evPairs, storeA, AV.cellsOf, pairsOf, xI_nil, binBool, gcE, evOpt, xI_block, xI_loopH, xI_condM, xI_exitM, xI_skip, xI_blk, exitA, ty2, ty3, ty48, eK152_0_0, eK152_1_2, eK152_1_1, eK152_1_0]
    simp only [R152_0_0, b152, Try.f152, Option.getD, fstC, sndC, bodyC, thnC, elsC]
    simp [xI_seq, xI_region, xI_ret, regA, regOps, runOps, opStep, wantedA, opA, evo, evos, calleeA, lk, nif_eq, putE, paramsE, valS, val2, keepE, restrict, finA, resA, binA, binInt, ofConst, ofConst1, loadA, TK.isAgg, asVar, unA, builtinA, lenOpA, lenA, ileb_cast, ileb_eq, ieqb_dec, indexAddrA, inB_dec, evPairs, storeA, AV.cellsOf, pairsOf, xI_nil, binBool, gcE, evOpt, xI_block, xI_loopH, xI_condM, xI_exitM, xI_skip, xI_blk, exitA, ty2, ty3, ty48, eK152_0_0, eK152_1_2, eK152_1_1, eK152_1_0, hlt, hlt2, g1]
  | succ m ih =>
    intro i σ b hi hr
    have hlt : ¬ n ≤ i := by omega
    have hw := wrapS (n := i) (by omega)
    have hr0 := Row.push (σ := σ) (l := [1]) (o := false)
    have hbn := hr.lt
    obtain ⟨σ1, b1, h1, h2, h3, h4⟩ := l152_1 n k i (by omega) (prow i) (prow_length i) (fun x hx => by
      obtain ⟨j, hj⟩ := List.getElem?_of_mem hx
      have hjl := (List.getElem?_eq_some_iff.1 hj).1
      rw [prow_length] at hjl
      rw [prow_get i j (by omega)] at hj
      cases hj
      exact ch_le (by omega)) i 1 (σ.push ⟨ints [1], 1, false⟩) b σ.n (by omega) (by omega) (by omega) hr.pushed (by simpa [natI] using hr0)
    have hl4 : (natI (1 :: adj (prow i))).length = i + 1 := by rw [natI_length]; simp [adj_length, prow_length]
    obtain ⟨σ2, ha, hr2, hn2, hf2⟩ := append_row (x := 1) ty48 ty2 h4 hl4.symm (by omega)
    have hr2' : Row σ2 (σ1.n + 1) (natI (prow (i + 1))) := by simpa [natI, prow] using hr2
    obtain ⟨σ', h5⟩ := ih (i + 1) σ2 (σ1.n + 1) (by omega) hr2'
    refine ⟨σ', ?_⟩
    have hi1 : ((i + 1 : Nat) : Int) = (i : Int) + 1 := by omega
    rw [hi1] at h5
    have h6 : exI TT (FI.of Try.f152 (TT.an 152)) R152_1_2 [(0, .int .i64 n), (1, .int .i64 k), (5, .sl b 0 (i + 1) (i + 1)), (6, .int .i64 i), (7, .sl b1 0 (i + 1) (i + 1)), (8, .int .i64 (i + 1 : Nat)), (19, .bool false)] σ1 = some (.int .i64 (ch n k), σ') := by
      rw [fi152] at h5 ⊢
      simp only [R152_1_2, b152, Try.f152, Option.getD, fstC, sndC, bodyC, thnC, elsC]
      simp [xI_seq, xI_region, xI_ret, regA, regOps, runOps, opStep, wantedA, opA, evo, evos, calleeA, lk, nif_eq, putE, paramsE, valS, val2, keepE, restrict, finA, resA, binA, binInt, ofConst, ofConst1, loadA, TK.isAgg, asVar, unA, builtinA, lenOpA, lenA, ileb_cast, ileb_eq, ieqb_dec, indexAddrA, inB_dec, evPairs, storeA, AV.cellsOf, pairsOf, xI_nil, binBool, gcE, evOpt, xI_block, xI_loopH, xI_condM, xI_exitM, xI_skip, xI_blk, exitA, ty2, ty3, ty48, eK152_0_0, eK152_1_2, eK152_1_1, eK152_1_0, bs1, ha, hw]
      exact h5
    rw [h6] at h1
    rw [fi152] at h1 ⊢
    rw [xl152_0]
    simp only [B152_0, b152, Try.f152, Option.getD, fstC, sndC, bodyC, thnC, elsC]
    simp [xI_seq, xI_region, xI_ret, regA, regOps, runOps, opStep, wantedA, opA, evo, evos, calleeA, lk, nif_eq, putE, paramsE, valS, val2, keepE, restrict, finA, resA, binA, binInt, ofConst, ofConst1, loadA, TK.isAgg, asVar, unA, builtinA, lenOpA, lenA, ileb_cast, ileb_eq, ieqb_dec, indexAddrA, inB_dec, evPairs, storeA, AV.cellsOf, pairsOf, xI_nil, binBool, gcE, evOpt, xI_block, xI_loopH, xI_condM, xI_exitM, xI_skip, xI_blk, exitA, ty2, ty3, ty48, eK152_0_0, eK152_1_2, eK152_1_1, eK152_1_0, hlt, bs1]
    exact h1
theorem c152 (n k : Nat) (hn : n ≤ 60) (hk : k ≤ n) (σ : St) : callI TT 152 [.int .i64 n, .int .i64 k] σ = some (.int .i64 (ch n k), σ) := by
  obtain ⟨σ', h1⟩ := l152_0 n k hn hk n 0 ((⟨[], 0⟩ : St).push ⟨ints [1], 1, false⟩) 0 (by omega) ⟨false, rfl, by decide⟩
  refine (FnV.mk (args' := [.int .i64 n, .int .i64 k]) fn152 rfl md152 ⟨σ', ?_⟩ (fun _ => rfl) rfl) σ _ rfl
  have hb := bs1 ⟨[], 0⟩ 1
  rw [fi152] at h1 ⊢
  simp [xI_seq, xI_region, xI_ret, regA, regOps, runOps, opStep, wantedA, opA, evo, evos, calleeA, lk, nif_eq, putE, paramsE, valS, val2, keepE, restrict, finA, resA, binA, binInt, ofConst, ofConst1, loadA, TK.isAgg, asVar, unA, builtinA, lenOpA, lenA, ileb_cast, ileb_eq, ieqb_dec, indexAddrA, inB_dec, evPairs, storeA, AV.cellsOf, pairsOf, xI_nil, binBool, gcE, evOpt, xI_block, xI_loopH, xI_condM, xI_exitM, xI_skip, xI_blk, exitA, ty2, ty3, ty48, eK152_0_0, eK152_1_2, eK152_1_1, eK152_1_0, hb]
  exact h1

theorem pow_sh2 (i : Nat) (hi : i ≤ 60) : wrapA .i64 (shlA (1 : Int) (min i IntKind.i64.bits)) = ((2 ^ i : Nat) : Int) := by
  rw [Nat.min_eq_left (by simp [IntKind.bits]; omega)]
  have e : shlA (1 : Int) i = ((1 * 2 ^ i : Nat) : Int) := rfl
  have h : 2 ^ i ≤ 2 ^ 60 := Nat.pow_le_pow_right (by decide) hi
  rw [e, Nat.one_mul]
  exact wi64 (Nat.le_trans h (by decide))

theorem r106w {n : Int} {d : Nat} (h1 : -1000000000000000000 ≤ n) (h2 : n ≤ 1000000000000000000) (hd : 0 < d) (hd2 : d < 2305843009213693952) : FnF TT 106 [.int .i64 n, .int .i64 d] (RT (mkRat n d)) := by
  have hl := r150 (decide (n < 0)) n.natAbs d 61 hd (Nat.lt_of_le_of_lt (show n.natAbs ≤ 1000000000000000000 by omega) (by decide)) hd2 (by decide)
  rw [sg_int] at hl
  exact FnF.mkv fn106 rfl md106 (k106 n d n.natAbs _ _ _ _ _ _ _ _ _ _ (ileb_neg n) (fun σ => (v137 n (by omega) (by omega)) σ _ rfl) (fun σ => (v136 n.natAbs (by omega)).pure σ rfl rfl) (fun σ => (v136 d (by omega)).pure σ rfl rfl) (fun σ => hl.pure σ rfl rfl)) (fun _ => rfl)

def frF : AV := .tup [.agg [.int .i64 0, .int .i64 0], .bool false]
theorem frA_is (q : Rat) : ∃ a b c, frA q = .tup [.agg [.int .i64 a, .int .i64 b], .bool c] := by
  unfold frA
  split <;> exact ⟨_, _, _, rfl⟩
theorem frA_frz (q : Rat) (σ : St) : frzV σ frzDepth (frA q) = some (frA q) := by
  obtain ⟨a, b, c, h⟩ := frA_is q
  rw [h]; rfl
theorem frA_scal (q : Rat) : (frA q).scal = true := by
  obtain ⟨a, b, c, h⟩ := frA_is q
  rw [h]; rfl
theorem frA_yes {q : Rat} (h : fits q = true) : frA q = .tup [.agg [.int .i64 q.num, .int .i64 q.den], .bool true] := by rw [frA, if_pos h]
/-- The chance of an order of n things with s rising sequences after r riffles. -/
def chance (n s r : Nat) : Rat := mkRat (ch (2 ^ r + n - s) n : Nat) (2 ^ (r * n))
theorem pow_le5 {r : Nat} (h : r ≤ 5) : 2 ^ r ≤ 32 ∧ 1 ≤ 2 ^ r := ⟨Nat.pow_le_pow_right (by decide) h, Nat.one_le_two_pow⟩
theorem rn_le {n r : Nat} (hn : n ≤ 12) (hr : r ≤ 5) : r * n ≤ 60 := Nat.mul_le_mul hr hn
set_option maxHeartbeats 4000000 in
theorem y87   :
    ∃ σ', exI TT (FI.of Try.f87 (TT.an 87)) [.code (Try.f87.body.getD .skip)] (paramsE 0 []) ⟨[], 0⟩ = some (.agg [.int .i64 0, .int .i64 1], σ') := by
  refine ex1 ?_
  rw [fi87]
  simp only [Try.f87, Option.getD]
  simp (maxSteps := 1000000) (disch := omega) [cellsAt, getCells, takeN, dropN, fieldAddrA, allOne, AV.one, n_push, storeCellsA, putN, overN, St.push, St.get, St.set, hget, hset, blt_dec, buildA, sizesOf, fillA, putCells, List.take_succ_cons, List.take_zero, List.drop_succ_cons, List.drop_zero, List.nil_append, List.cons_append, List.length_cons, List.length_nil, eqvs_dgs]
theorem z87 : FnV TT 87 [] (.agg [.int .i64 0, .int .i64 1]) := FnV.mk fn87 rfl md87 y87 (fun _ => rfl) rfl
set_option maxHeartbeats 4000000 in
theorem k97 (n s r k : Nat) (P A m C Qd : Int) (b1 : Bool) (n1 n2 : Nat) (x1 x2 : List AV) (h1 : wrapA .i64 (shlA (1 : Int) (min r IntKind.i64.bits)) = P) (h2 : wrapA .i64 (P + n) = A) (h3 : wrapA .i64 (A - s) = m) (c1 : ∀ σ, callI TT 157 [.int .i64 m, .int .i64 n] σ = some (.int .i64 C, σ)) (h4 : wrapA .i64 ((r : Int) * n) = (k : Int)) (h5 : wrapA .i64 (shlA (1 : Int) (min k IntKind.i64.bits)) = Qd) (c2 : ∀ σ, callI TT 106 [.int .i64 C, .int .i64 Qd] σ = some (.agg [.bool b1, .lst n1 x1, .lst n2 x2], σ)) :
    ∃ σ', exI TT (FI.of Try.f97 (TT.an 97)) [.code (Try.f97.body.getD .skip)] (paramsE 0 [.int .i64 n, .int .i64 s, .int .i64 r]) ⟨[], 0⟩ = some (.agg [.bool b1, .lst n1 x1, .lst n2 x2], σ') := by
  refine ex1 ?_
  rw [fi97]
  simp only [Try.f97, Option.getD]
  simp (maxSteps := 1000000) (disch := omega) [cellsAt, getCells, takeN, dropN, fieldAddrA, allOne, AV.one, n_push, storeCellsA, putN, overN, St.push, St.get, St.set, hget, hset, blt_dec, buildA, sizesOf, fillA, putCells, List.take_succ_cons, List.take_zero, List.drop_succ_cons, List.drop_zero, List.nil_append, List.cons_append, List.length_cons, List.length_nil, eqvs_dgs, convA, h1, h2, h3, c1, h4, h5, c2]
theorem r97 (n s r : Nat) (hn : n ≤ 12) (hs : s ≤ n) (hr : r ≤ 5) : FnF TT 97 [.int .i64 n, .int .i64 s, .int .i64 r] (RT (chance n s r)) := by
  obtain ⟨p1, p2⟩ := pow_le5 hr
  have hrn := rn_le hn hr
  have hp : 2 ^ (r * n) ≤ 2 ^ 60 := Nat.pow_le_pow_right (by decide) hrn
  have hp0 : 0 < 2 ^ (r * n) := Nat.two_pow_pos _
  have hch := ch_le (n := 2 ^ r + n - s) (k := n) (by omega)
  have c1 := fun σ => c157 (2 ^ r + n - s) n (by omega) (by omega) σ
  have c2 := r106w (n := (ch (2 ^ r + n - s) n : Nat)) (d := 2 ^ (r * n)) (by omega) (by omega) hp0 (Nat.lt_of_le_of_lt hp (by decide))
  have h1 := pow_sh2 r (by omega)
  have h5 := pow_sh2 (r * n) hrn
  have h4 : wrapA .i64 ((r : Int) * n) = ((r * n : Nat) : Int) := by rw [← Int.natCast_mul]; exact wrapA_id (by omega) (by omega)
  exact FnF.mkv fn97 rfl md97 (k97 n s r (r * n) ((2 ^ r : Nat) : Int) ((2 ^ r + n : Nat) : Int) ((2 ^ r + n - s : Nat) : Int) _ _ _ _ _ _ _ h1 (by rw [← Int.natCast_add]; exact wrapA_id (by omega) (by omega)) (by rw [← Int.ofNat_sub (by omega)]; exact wrapA_id (by omega) (by omega)) c1 h4 h5 (fun σ => c2.pure σ rfl rfl)) (fun _ => rfl)

set_option maxHeartbeats 4000000 in
theorem k95z (n s r : Nat) (P A m : Int) (hr : wrapA .u64 (r : Int) = (r : Int)) (h1 : wrapA .i64 (shlA (1 : Int) (min r IntKind.i64.bits)) = P) (h2 : wrapA .i64 (P + n) = A) (h3 : wrapA .i64 (A - s) = m) (hm : m < n) (c0 : ∀ σ, callI TT 87 [] σ = some (.agg [.int .i64 0, .int .i64 1], σ)) :
    ∃ σ', exI TT (FI.of Try.f95 (TT.an 95)) [.code (Try.f95.body.getD .skip)] (paramsE 0 [.int .i64 n, .int .i64 s, .int .i64 r]) ⟨[], 0⟩ = some (.agg [.int .i64 0, .int .i64 1], σ') := by
  refine ex1 ?_
  rw [fi95]
  simp only [Try.f95, Option.getD]
  simp (maxSteps := 1000000) (disch := omega) [cellsAt, getCells, takeN, dropN, fieldAddrA, allOne, AV.one, n_push, storeCellsA, putN, overN, St.push, St.get, St.set, hget, hset, blt_dec, buildA, sizesOf, fillA, putCells, List.take_succ_cons, List.take_zero, List.drop_succ_cons, List.drop_zero, List.nil_append, List.cons_append, List.length_cons, List.length_nil, eqvs_dgs, convA, hr, h1, h2, h3, hm, c0]
set_option maxHeartbeats 4000000 in
theorem k95 (n s r k : Nat) (P A m C Qd : Int) (x y : Int) (hr : wrapA .u64 (r : Int) = (r : Int)) (h1 : wrapA .i64 (shlA (1 : Int) (min r IntKind.i64.bits)) = P) (h2 : wrapA .i64 (P + n) = A) (h3 : wrapA .i64 (A - s) = m) (hm : (n : Int) ≤ m) (c1 : ∀ σ, callI TT 152 [.int .i64 m, .int .i64 n] σ = some (.int .i64 C, σ)) (h4 : wrapA .i64 ((r : Int) * n) = (k : Int)) (hk : wrapA .u64 (k : Int) = (k : Int)) (h5 : wrapA .i64 (shlA (1 : Int) (min k IntKind.i64.bits)) = Qd) (c2 : ∀ σ, callI TT 100 [.int .i64 C, .int .i64 Qd] σ = some (.agg [.int .i64 x, .int .i64 y], σ)) :
    ∃ σ', exI TT (FI.of Try.f95 (TT.an 95)) [.code (Try.f95.body.getD .skip)] (paramsE 0 [.int .i64 n, .int .i64 s, .int .i64 r]) ⟨[], 0⟩ = some (.agg [.int .i64 x, .int .i64 y], σ') := by
  refine ex1 ?_
  rw [fi95]
  simp only [Try.f95, Option.getD]
  simp (maxSteps := 1000000) (disch := omega) [cellsAt, getCells, takeN, dropN, fieldAddrA, allOne, AV.one, n_push, storeCellsA, putN, overN, St.push, St.get, St.set, hget, hset, blt_dec, buildA, sizesOf, fillA, putCells, List.take_succ_cons, List.take_zero, List.drop_succ_cons, List.drop_zero, List.nil_append, List.cons_append, List.length_cons, List.length_nil, eqvs_dgs, convA, hr, h1, h2, h3, hm, c1, h4, hk, h5, c2]
theorem r95 (n s r : Nat) (hn : n ≤ 12) (hs : s ≤ n) (hr : r ≤ 5) : FnV TT 95 [.int .i64 n, .int .i64 s, .int .i64 r] (.agg [.int .i64 (chance n s r).num, .int .i64 (chance n s r).den]) := by
  obtain ⟨p1, p2⟩ := pow_le5 hr
  have hrn := rn_le hn hr
  have hp : 2 ^ (r * n) ≤ 2 ^ 60 := Nat.pow_le_pow_right (by decide) hrn
  have hp0 : 0 < 2 ^ (r * n) := Nat.two_pow_pos _
  have hch := ch_le (n := 2 ^ r + n - s) (k := n) (by omega)
  have h1 := pow_sh2 r (by omega)
  have h5 := pow_sh2 (r * n) hrn
  have h4 : wrapA .i64 ((r : Int) * n) = ((r * n : Nat) : Int) := by rw [← Int.natCast_mul]; exact wrapA_id (by omega) (by omega)
  have h2 : wrapA .i64 (((2 ^ r : Nat) : Int) + n) = ((2 ^ r + n : Nat) : Int) := by rw [← Int.natCast_add]; exact wrapA_id (by omega) (by omega)
  have h3 : wrapA .i64 (((2 ^ r + n : Nat) : Int) - s) = ((2 ^ r + n - s : Nat) : Int) := by rw [← Int.ofNat_sub (by omega)]; exact wrapA_id (by omega) (by omega)
  have hrr : wrapA .u64 (r : Int) = (r : Int) := w64 (by omega)
  by_cases hm : 2 ^ r + n - s < n
  · have h0 : chance n s r = 0 := by rw [chance, ch_gt _ _ hm]; exact Rat.zero_mkRat _
    rw [h0]
    exact FnV.mk fn95 rfl md95 (k95z n s r _ _ _ hrr h1 h2 h3 (by omega) (fun σ => z87 σ [] rfl)) (fun _ => rfl) rfl
  · have c1 := fun σ => c152 (2 ^ r + n - s) n (by omega) (by omega) σ
    have c2 := v100 (ch (2 ^ r + n - s) n : Nat) (2 ^ (r * n)) (by omega) (by omega) hp0 (by omega)
    exact FnV.mk fn95 rfl md95 (k95 n s r (r * n) _ _ _ _ _ _ _ hrr h1 h2 h3 (by omega) c1 h4 (w64 (by omega)) h5 (fun σ => c2 σ _ rfl)) (fun _ => rfl) rfl
theorem chance_fits (n s r : Nat) (hn : n ≤ 12) (hs : s ≤ n) (hr : r ≤ 5) (h : r * n ≤ 59) : fits (chance n s r) = true := by
  obtain ⟨p1, p2⟩ := pow_le5 hr
  have hp : 2 ^ (r * n) ≤ 2 ^ 59 := Nat.pow_le_pow_right (by decide) h
  have hp0 : 0 < 2 ^ (r * n) := Nat.two_pow_pos _
  have hch := ch_le (n := 2 ^ r + n - s) (k := n) (by omega)
  have := low_num false (ch (2 ^ r + n - s) n) (2 ^ (r * n)) (by omega)
  obtain ⟨e1, e2, _⟩ := this
  refine fits_iff.2 ⟨?_, ?_⟩
  · show nm (mkRat (sg false _) _) ≤ _
    rw [nm, e1]; exact Nat.le_trans (Nat.div_le_self _ _) (by omega)
  · show (mkRat (sg false _) _).den ≤ _
    rw [e2]; exact Nat.le_trans (Nat.div_le_self _ _) (Nat.le_trans hp (by decide))

noncomputable def b93 : Code := Try.f93.body.getD .skip
noncomputable def B93_0 : Code := (bodyC (bodyC (fstC (sndC (sndC (sndC (sndC (sndC b93))))))))
noncomputable def K93_0 : List It := .lp B93_0 :: .blk 0 :: .code (sndC (sndC (sndC (sndC (sndC (sndC b93)))))) :: []
noncomputable def R93_0_0 : List It := .code (sndC (sndC (sndC (sndC (sndC (sndC b93)))))) :: []
theorem eK93_0_0 : exitA 0 K93_0 = some R93_0_0 := rfl
set_option maxHeartbeats 4000000 in
theorem b93e (s : Nat) (m C A : Int) (hr : wrapA .u64 (5 : Int) = 5) (h1 : wrapA .i64 (shlA (1 : Int) (min 5 IntKind.i64.bits)) = 32) (h3 : wrapA .i64 ((32 : Int) + 12) = 44) (h4 : wrapA .i64 ((5 : Int) * 12) = 60) (h2 : wrapA .i64 (44 - (s : Int)) = m) (hm : (12 : Int) ≤ m) (c1 : ∀ σ, callI TT 152 [.int .i64 m, .int .i64 12] σ = some (.int .i64 C, σ)) :
    exI TT (FI.of Try.f93 (TT.an 93)) [.code b93] (paramsE 0 [.int .i64 12, .int .i64 s, .int .i64 5]) ⟨[], 0⟩ = exI TT (FI.of Try.f93 (TT.an 93)) K93_0 [(6, .ptr 0 0), (9, .int .i64 C), (10, .int .i64 60)] ⟨[(0, ⟨[.int .i64 0, .int .i64 0], 2, false⟩)], 1⟩ := by
  rw [fi93]
  simp only [b93, Try.f93, Option.getD, fstC, sndC, bodyC, thnC, elsC]
  simp (maxSteps := 1000000) (disch := omega) [eK93_0_0, cellsAt, getCells, takeN, dropN, fieldAddrA, allOne, AV.one, n_push, storeCellsA, putN, overN, St.push, St.get, St.set, hget, hset, blt_dec, buildA, sizesOf, fillA, putCells, List.take_succ_cons, List.take_zero, List.drop_succ_cons, List.drop_zero, List.nil_append, List.cons_append, List.length_cons, List.length_nil, eqvs_dgs, convA, hr, h1, h3, h4, h2, hm, c1]
  rfl
theorem g93_1 : ∃ σ', exI TT (FI.of Try.f93 (TT.an 93)) K93_0 [(6, .ptr 0 0), (9, .int .i64 15338678264), (10, .int .i64 60)] ⟨[(0, ⟨[.int .i64 0, .int .i64 0], 2, false⟩)], 1⟩ = some (frA (chance 12 1 5), σ') := exI_of_exec (n := 1000) (by kernel_rfl)
theorem g93_2 : ∃ σ', exI TT (FI.of Try.f93 (TT.an 93)) K93_0 [(6, .ptr 0 0), (9, .int .i64 11058116888), (10, .int .i64 60)] ⟨[(0, ⟨[.int .i64 0, .int .i64 0], 2, false⟩)], 1⟩ = some (frA (chance 12 2 5), σ') := exI_of_exec (n := 1000) (by kernel_rfl)
theorem g93_3 : ∃ σ', exI TT (FI.of Try.f93 (TT.an 93)) K93_0 [(6, .ptr 0 0), (9, .int .i64 7898654920), (10, .int .i64 60)] ⟨[(0, ⟨[.int .i64 0, .int .i64 0], 2, false⟩)], 1⟩ = some (frA (chance 12 3 5), σ') := exI_of_exec (n := 1000) (by kernel_rfl)
theorem g93_4 : ∃ σ', exI TT (FI.of Try.f93 (TT.an 93)) K93_0 [(6, .ptr 0 0), (9, .int .i64 5586853480), (10, .int .i64 60)] ⟨[(0, ⟨[.int .i64 0, .int .i64 0], 2, false⟩)], 1⟩ = some (frA (chance 12 4 5), σ') := exI_of_exec (n := 1000) (by kernel_rfl)
theorem g93_5 : ∃ σ', exI TT (FI.of Try.f93 (TT.an 93)) K93_0 [(6, .ptr 0 0), (9, .int .i64 3910797436), (10, .int .i64 60)] ⟨[(0, ⟨[.int .i64 0, .int .i64 0], 2, false⟩)], 1⟩ = some (frA (chance 12 5 5), σ') := exI_of_exec (n := 1000) (by kernel_rfl)
theorem g93_6 : ∃ σ', exI TT (FI.of Try.f93 (TT.an 93)) K93_0 [(6, .ptr 0 0), (9, .int .i64 2707475148), (10, .int .i64 60)] ⟨[(0, ⟨[.int .i64 0, .int .i64 0], 2, false⟩)], 1⟩ = some (frA (chance 12 6 5), σ') := exI_of_exec (n := 1000) (by kernel_rfl)
theorem g93_7 : ∃ σ', exI TT (FI.of Try.f93 (TT.an 93)) K93_0 [(6, .ptr 0 0), (9, .int .i64 1852482996), (10, .int .i64 60)] ⟨[(0, ⟨[.int .i64 0, .int .i64 0], 2, false⟩)], 1⟩ = some (frA (chance 12 7 5), σ') := exI_of_exec (n := 1000) (by kernel_rfl)
theorem g93_8 : ∃ σ', exI TT (FI.of Try.f93 (TT.an 93)) K93_0 [(6, .ptr 0 0), (9, .int .i64 1251677700), (10, .int .i64 60)] ⟨[(0, ⟨[.int .i64 0, .int .i64 0], 2, false⟩)], 1⟩ = some (frA (chance 12 8 5), σ') := exI_of_exec (n := 1000) (by kernel_rfl)
theorem g93_9 : ∃ σ', exI TT (FI.of Try.f93 (TT.an 93)) K93_0 [(6, .ptr 0 0), (9, .int .i64 834451800), (10, .int .i64 60)] ⟨[(0, ⟨[.int .i64 0, .int .i64 0], 2, false⟩)], 1⟩ = some (frA (chance 12 9 5), σ') := exI_of_exec (n := 1000) (by kernel_rfl)
theorem g93_10 : ∃ σ', exI TT (FI.of Try.f93 (TT.an 93)) K93_0 [(6, .ptr 0 0), (9, .int .i64 548354040), (10, .int .i64 60)] ⟨[(0, ⟨[.int .i64 0, .int .i64 0], 2, false⟩)], 1⟩ = some (frA (chance 12 10 5), σ') := exI_of_exec (n := 1000) (by kernel_rfl)
theorem g93_11 : ∃ σ', exI TT (FI.of Try.f93 (TT.an 93)) K93_0 [(6, .ptr 0 0), (9, .int .i64 354817320), (10, .int .i64 60)] ⟨[(0, ⟨[.int .i64 0, .int .i64 0], 2, false⟩)], 1⟩ = some (frA (chance 12 11 5), σ') := exI_of_exec (n := 1000) (by kernel_rfl)
theorem g93_12 : ∃ σ', exI TT (FI.of Try.f93 (TT.an 93)) K93_0 [(6, .ptr 0 0), (9, .int .i64 225792840), (10, .int .i64 60)] ⟨[(0, ⟨[.int .i64 0, .int .i64 0], 2, false⟩)], 1⟩ = some (frA (chance 12 12 5), σ') := exI_of_exec (n := 1000) (by kernel_rfl)
/-- Pascal's numbers, quickly. -/
def chq (n : Nat) : Nat → Nat
  | 0 => 1
  | k + 1 => chq n k * (n - k) / (k + 1)
theorem chq_eq (n : Nat) : ∀ k, chq n k = ch n k
  | 0 => (ch_0 n).symm
  | k + 1 => by
    rw [chq, chq_eq n k, Nat.mul_comm, ← ch_step n k, Nat.mul_div_cancel_left _ (by omega)]
theorem r93 (s : Nat) (h1 : 1 ≤ s) (h2 : s ≤ 12) : FnV TT 93 [.int .i64 12, .int .i64 s, .int .i64 5] (frA (chance 12 s 5)) := by
  have hb := b93e s (44 - s : Nat) (ch (44 - s) 12 : Nat) 0 (by decide) (by decide) (by decide) (by decide) (by rw [show (44 : Int) - (s : Int) = ((44 - s : Nat) : Int) by omega]; exact wrapA_id (by omega) (by omega)) (by omega) (fun σ => c152 (44 - s) 12 (by omega) (by omega) σ)
  rw [← chq_eq] at hb
  have : s = 1 ∨ s = 2 ∨ s = 3 ∨ s = 4 ∨ s = 5 ∨ s = 6 ∨ s = 7 ∨ s = 8 ∨ s = 9 ∨ s = 10 ∨ s = 11 ∨ s = 12 := by omega
  rcases this with rfl | rfl | rfl | rfl | rfl | rfl | rfl | rfl | rfl | rfl | rfl | rfl
  · obtain ⟨σ, h⟩ := g93_1
    exact FnV.mk (c := b93) fn93 rfl md93 ⟨σ, hb.trans h⟩ (fun σ => frA_frz _ σ) (frA_scal _)
  · obtain ⟨σ, h⟩ := g93_2
    exact FnV.mk (c := b93) fn93 rfl md93 ⟨σ, hb.trans h⟩ (fun σ => frA_frz _ σ) (frA_scal _)
  · obtain ⟨σ, h⟩ := g93_3
    exact FnV.mk (c := b93) fn93 rfl md93 ⟨σ, hb.trans h⟩ (fun σ => frA_frz _ σ) (frA_scal _)
  · obtain ⟨σ, h⟩ := g93_4
    exact FnV.mk (c := b93) fn93 rfl md93 ⟨σ, hb.trans h⟩ (fun σ => frA_frz _ σ) (frA_scal _)
  · obtain ⟨σ, h⟩ := g93_5
    exact FnV.mk (c := b93) fn93 rfl md93 ⟨σ, hb.trans h⟩ (fun σ => frA_frz _ σ) (frA_scal _)
  · obtain ⟨σ, h⟩ := g93_6
    exact FnV.mk (c := b93) fn93 rfl md93 ⟨σ, hb.trans h⟩ (fun σ => frA_frz _ σ) (frA_scal _)
  · obtain ⟨σ, h⟩ := g93_7
    exact FnV.mk (c := b93) fn93 rfl md93 ⟨σ, hb.trans h⟩ (fun σ => frA_frz _ σ) (frA_scal _)
  · obtain ⟨σ, h⟩ := g93_8
    exact FnV.mk (c := b93) fn93 rfl md93 ⟨σ, hb.trans h⟩ (fun σ => frA_frz _ σ) (frA_scal _)
  · obtain ⟨σ, h⟩ := g93_9
    exact FnV.mk (c := b93) fn93 rfl md93 ⟨σ, hb.trans h⟩ (fun σ => frA_frz _ σ) (frA_scal _)
  · obtain ⟨σ, h⟩ := g93_10
    exact FnV.mk (c := b93) fn93 rfl md93 ⟨σ, hb.trans h⟩ (fun σ => frA_frz _ σ) (frA_scal _)
  · obtain ⟨σ, h⟩ := g93_11
    exact FnV.mk (c := b93) fn93 rfl md93 ⟨σ, hb.trans h⟩ (fun σ => frA_frz _ σ) (frA_scal _)
  · obtain ⟨σ, h⟩ := g93_12
    exact FnV.mk (c := b93) fn93 rfl md93 ⟨σ, hb.trans h⟩ (fun σ => frA_frz _ σ) (frA_scal _)
theorem risG_b (l : List Int) : ∀ (m i : Nat) (r : Int), r ≤ risG l m i r ∧ risG l m i r ≤ r + m
  | 0, _, r => by simp [risG]
  | m + 1, i, r => by
    rw [risG]
    split
    · have := risG_b l m (i + 1) (r + 1); omega
    · have := risG_b l m (i + 1) r; omega
def risN (l : List Int) : Nat := (ris l).toNat
theorem risN_b {l : List Int} (h : 1 ≤ l.length) : ris l = (risN l : Int) ∧ 1 ≤ risN l ∧ risN l ≤ l.length := by
  have := risG_b l (l.length - 1) 0 1
  unfold risN ris
  omega
theorem isO_b {l : List Int} (h : isO l = true) : 1 ≤ l.length ∧ l.length ≤ 12 := by
  simp only [isO, Bool.and_eq_true, inR, decide_eq_true_eq] at h
  omega
/-- What RiffleChance answers. -/
def valRif (l : List Int) (r : Int) : AV := if (isO l && inR r 0 5) = true then frA (chance l.length (risN l) r.toNat) else frF
theorem valRif_is (l : List Int) (r : Int) : ∃ a b c, valRif l r = .tup [.agg [.int .i64 a, .int .i64 b], .bool c] := by
  unfold valRif
  split
  · exact frA_is _
  · exact ⟨_, _, _, rfl⟩

set_option maxHeartbeats 4000000 in
theorem k33f1 (n : Nat) (cells : List AV) (r : Int) (c1 : ∀ σ, callI TT 91 [.lst n cells] σ = some (.bool false, σ)) :
    ∃ σ', exI TT (FI.of Try.f33 (TT.an 33)) [.code (Try.f33.body.getD .skip)] (paramsE 0 [.lst n cells, .int .i64 r]) ⟨[], 0⟩ = some (.tup [.agg [.int .i64 0, .int .i64 0], .bool false], σ') := by
  refine ex1 ?_
  rw [fi33]
  simp only [Try.f33, Option.getD]
  simp (maxSteps := 1000000) (disch := omega) [cellsAt, getCells, takeN, dropN, fieldAddrA, allOne, AV.one, n_push, storeCellsA, putN, overN, St.push, St.get, St.set, hget, hset, blt_dec, buildA, sizesOf, fillA, putCells, List.take_succ_cons, List.take_zero, List.drop_succ_cons, List.drop_zero, List.nil_append, List.cons_append, List.length_cons, List.length_nil, eqvs_dgs, convA, c1]
set_option maxHeartbeats 4000000 in
theorem k33f2 (n : Nat) (cells : List AV) (r : Int) (c1 : ∀ σ, callI TT 91 [.lst n cells] σ = some (.bool true, σ)) (c2 : ∀ σ, callI TT 92 [.int .i64 r, .int .i64 0, .int .i64 5] σ = some (.bool false, σ)) :
    ∃ σ', exI TT (FI.of Try.f33 (TT.an 33)) [.code (Try.f33.body.getD .skip)] (paramsE 0 [.lst n cells, .int .i64 r]) ⟨[], 0⟩ = some (.tup [.agg [.int .i64 0, .int .i64 0], .bool false], σ') := by
  refine ex1 ?_
  rw [fi33]
  simp only [Try.f33, Option.getD]
  simp (maxSteps := 1000000) (disch := omega) [cellsAt, getCells, takeN, dropN, fieldAddrA, allOne, AV.one, n_push, storeCellsA, putN, overN, St.push, St.get, St.set, hget, hset, blt_dec, buildA, sizesOf, fillA, putCells, List.take_succ_cons, List.take_zero, List.drop_succ_cons, List.drop_zero, List.nil_append, List.cons_append, List.length_cons, List.length_nil, eqvs_dgs, convA, c1, c2]
theorem k33f (n : Nat) (cells : List AV) (r : Int) (b1 b2 : Bool) (c1 : ∀ σ, callI TT 91 [.lst n cells] σ = some (.bool b1, σ)) (c2 : ∀ σ, callI TT 92 [.int .i64 r, .int .i64 0, .int .i64 5] σ = some (.bool b2, σ)) (h0 : (b1 && b2) = false) : ∃ σ', exI TT (FI.of Try.f33 (TT.an 33)) [.code (Try.f33.body.getD .skip)] (paramsE 0 [.lst n cells, .int .i64 r]) ⟨[], 0⟩ = some (.tup [.agg [.int .i64 0, .int .i64 0], .bool false], σ') := by
  cases b1 with
  | false => exact k33f1 n cells r c1
  | true => cases b2 with
    | false => exact k33f2 n cells r c1 c2
    | true => cases h0
set_option maxHeartbeats 4000000 in
theorem k35f1 (n : Nat) (cells : List AV) (r : Int) (c1 : ∀ σ, callI TT 96 [.lst n cells] σ = some (.bool false, σ)) :
    ∃ σ', exI TT (FI.of Try.f35 (TT.an 35)) [.code (Try.f35.body.getD .skip)] (paramsE 0 [.lst n cells, .int .i64 r]) ⟨[], 0⟩ = some (.tup [.agg [.int .i64 0, .int .i64 0], .bool false], σ') := by
  refine ex1 ?_
  rw [fi35]
  simp only [Try.f35, Option.getD]
  simp (maxSteps := 1000000) (disch := omega) [cellsAt, getCells, takeN, dropN, fieldAddrA, allOne, AV.one, n_push, storeCellsA, putN, overN, St.push, St.get, St.set, hget, hset, blt_dec, buildA, sizesOf, fillA, putCells, List.take_succ_cons, List.take_zero, List.drop_succ_cons, List.drop_zero, List.nil_append, List.cons_append, List.length_cons, List.length_nil, eqvs_dgs, convA, c1]
set_option maxHeartbeats 4000000 in
theorem k35f2 (n : Nat) (cells : List AV) (r : Int) (c1 : ∀ σ, callI TT 96 [.lst n cells] σ = some (.bool true, σ)) (c2 : ∀ σ, callI TT 63 [.int .i64 r, .int .i64 0, .int .i64 5] σ = some (.bool false, σ)) :
    ∃ σ', exI TT (FI.of Try.f35 (TT.an 35)) [.code (Try.f35.body.getD .skip)] (paramsE 0 [.lst n cells, .int .i64 r]) ⟨[], 0⟩ = some (.tup [.agg [.int .i64 0, .int .i64 0], .bool false], σ') := by
  refine ex1 ?_
  rw [fi35]
  simp only [Try.f35, Option.getD]
  simp (maxSteps := 1000000) (disch := omega) [cellsAt, getCells, takeN, dropN, fieldAddrA, allOne, AV.one, n_push, storeCellsA, putN, overN, St.push, St.get, St.set, hget, hset, blt_dec, buildA, sizesOf, fillA, putCells, List.take_succ_cons, List.take_zero, List.drop_succ_cons, List.drop_zero, List.nil_append, List.cons_append, List.length_cons, List.length_nil, eqvs_dgs, convA, c1, c2]
theorem k35f (n : Nat) (cells : List AV) (r : Int) (b1 b2 : Bool) (c1 : ∀ σ, callI TT 96 [.lst n cells] σ = some (.bool b1, σ)) (c2 : ∀ σ, callI TT 63 [.int .i64 r, .int .i64 0, .int .i64 5] σ = some (.bool b2, σ)) (h0 : (b1 && b2) = false) : ∃ σ', exI TT (FI.of Try.f35 (TT.an 35)) [.code (Try.f35.body.getD .skip)] (paramsE 0 [.lst n cells, .int .i64 r]) ⟨[], 0⟩ = some (.tup [.agg [.int .i64 0, .int .i64 0], .bool false], σ') := by
  cases b1 with
  | false => exact k35f1 n cells r c1
  | true => cases b2 with
    | false => exact k35f2 n cells r c1 c2
    | true => cases h0
set_option maxHeartbeats 4000000 in
theorem k35 (n : Nat) (cells : List AV) (r : Int) (s : Int) (x : List AV) (a b : Int) (c : Bool) (c1 : ∀ σ, callI TT 96 [.lst n cells] σ = some (.bool true, σ)) (c2 : ∀ σ, callI TT 63 [.int .i64 r, .int .i64 0, .int .i64 5] σ = some (.bool true, σ)) (c3 : ∀ σ, callI TT 98 [.lst n cells] σ = some (.int .i64 n, σ)) (c4 : ∀ σ, callI TT 99 [.lst n cells] σ = some (.int .i64 s, σ)) (c5 : ∀ σ, callI TT 97 [.int .i64 n, .int .i64 s, .int .i64 r] σ = some (.agg x, σ)) (c6 : ∀ σ, callI TT 80 [.agg x] σ = some (.tup [.agg [.int .i64 a, .int .i64 b], .bool c], σ)) :
    ∃ σ', exI TT (FI.of Try.f35 (TT.an 35)) [.code (Try.f35.body.getD .skip)] (paramsE 0 [.lst n cells, .int .i64 r]) ⟨[], 0⟩ = some (.tup [.agg [.int .i64 a, .int .i64 b], .bool c], σ') := by
  refine ex1 ?_
  rw [fi35]
  simp only [Try.f35, Option.getD]
  simp (maxSteps := 1000000) (disch := omega) [cellsAt, getCells, takeN, dropN, fieldAddrA, allOne, AV.one, n_push, storeCellsA, putN, overN, St.push, St.get, St.set, hget, hset, blt_dec, buildA, sizesOf, fillA, putCells, List.take_succ_cons, List.take_zero, List.drop_succ_cons, List.drop_zero, List.nil_append, List.cons_append, List.length_cons, List.length_nil, eqvs_dgs, convA, c1, c2, c3, c4, c5, c6]
theorem chance_bd (n s r : Nat) (hn : n ≤ 12) (hs : s ≤ n) (hr : r ≤ 5) : Bd 61 (chance n s r) := by
  obtain ⟨p1, p2⟩ := pow_le5 hr
  have hp : 2 ^ (r * n) ≤ 2 ^ 60 := Nat.pow_le_pow_right (by decide) (rn_le hn hr)
  have hp0 : 0 < 2 ^ (r * n) := Nat.two_pow_pos _
  have hch := ch_le (n := 2 ^ r + n - s) (k := n) (by omega)
  exact low_bd (b := false) (by omega) (Nat.lt_of_le_of_lt hch (by decide)) (Nat.lt_of_le_of_lt hp (by decide))
theorem r35 (l : List Int) (hl : l.length < 3000000) (r : Int) : FnV TT 35 [.lst l.length (ints l), .int .i64 r] (valRif l r) := by
  have c1 := fun σ : St => v96 l l.length rfl hl σ [.lst l.length (ints l)] rfl
  have c2 := fun σ : St => c63 r 0 5 σ
  unfold valRif
  cases h : (isO l && inR r 0 5) with
  | true =>
    simp only [Bool.and_eq_true] at h
    obtain ⟨h1, h2⟩ := h
    obtain ⟨b1, b2⟩ := isO_b h1
    obtain ⟨e1, e2, e3⟩ := risN_b b1
    have hr := inR_iff.1 h2
    rw [h1] at c1
    rw [h2] at c2
    obtain ⟨k, rfl⟩ : ∃ k : Nat, r = k := ⟨r.toNat, by omega⟩
    have c4 := fun σ : St => v99 l l.length rfl b2 b1 σ [.lst l.length (ints l)] rfl
    rw [e1] at c4
    have c5 := r97 l.length (risN l) k b2 e3 (by omega)
    have c6 := r80 (chance_bd l.length (risN l) k b2 e3 (by omega)) (by decide)
    rw [if_pos rfl, Int.toNat_natCast]
    generalize chance l.length (risN l) k = d at *
    have f1 := frA_frz d
    have f2 := frA_scal d
    obtain ⟨a, b, c, hR⟩ := frA_is d
    rw [hR] at c6 f1 f2 ⊢
    exact FnV.mk fn35 rfl md35 (k35 _ _ _ _ _ a b c c1 c2 (fun σ => v98 l l.length σ [.lst l.length (ints l)] rfl) c4 (fun σ => c5.pure σ rfl rfl) (fun σ => c6 σ _ rfl)) f1 f2
  | false => exact FnV.mk fn35 rfl md35 (k35f _ _ _ _ _ c1 c2 h) (fun _ => rfl) rfl

set_option maxHeartbeats 4000000 in
theorem k33g (n : Nat) (cells : List AV) (r : Int) (s m : Int) (a b : Int) (c : Bool) (c1 : ∀ σ, callI TT 91 [.lst n cells] σ = some (.bool true, σ)) (c2 : ∀ σ, callI TT 92 [.int .i64 r, .int .i64 0, .int .i64 5] σ = some (.bool true, σ)) (hm : wrapA .i64 (r * n) = m) (c4 : ∀ σ, callI TT 94 [.lst n cells] σ = some (.int .i64 s, σ)) (hb : 59 < m) (c5 : ∀ σ, callI TT 93 [.int .i64 n, .int .i64 s, .int .i64 r] σ = some (.tup [.agg [.int .i64 a, .int .i64 b], .bool c], σ)) :
    ∃ σ', exI TT (FI.of Try.f33 (TT.an 33)) [.code (Try.f33.body.getD .skip)] (paramsE 0 [.lst n cells, .int .i64 r]) ⟨[], 0⟩ = some (.tup [.agg [.int .i64 a, .int .i64 b], .bool c], σ') := by
  refine ex1 ?_
  rw [fi33]
  simp only [Try.f33, Option.getD]
  simp (maxSteps := 1000000) (disch := omega) [cellsAt, getCells, takeN, dropN, fieldAddrA, allOne, AV.one, n_push, storeCellsA, putN, overN, St.push, St.get, St.set, hget, hset, blt_dec, buildA, sizesOf, fillA, putCells, List.take_succ_cons, List.take_zero, List.drop_succ_cons, List.drop_zero, List.nil_append, List.cons_append, List.length_cons, List.length_nil, eqvs_dgs, convA, c1, c2, hm, c4, hb, c5]
set_option maxHeartbeats 4000000 in
theorem k33c (n : Nat) (cells : List AV) (r : Int) (s m : Int) (a b : Int) (c1 : ∀ σ, callI TT 91 [.lst n cells] σ = some (.bool true, σ)) (c2 : ∀ σ, callI TT 92 [.int .i64 r, .int .i64 0, .int .i64 5] σ = some (.bool true, σ)) (hm : wrapA .i64 (r * n) = m) (c4 : ∀ σ, callI TT 94 [.lst n cells] σ = some (.int .i64 s, σ)) (hb : m ≤ 59) (c5 : ∀ σ, callI TT 95 [.int .i64 n, .int .i64 s, .int .i64 r] σ = some (.agg [.int .i64 a, .int .i64 b], σ)) :
    ∃ σ', exI TT (FI.of Try.f33 (TT.an 33)) [.code (Try.f33.body.getD .skip)] (paramsE 0 [.lst n cells, .int .i64 r]) ⟨[], 0⟩ = some (.tup [.agg [.int .i64 a, .int .i64 b], .bool true], σ') := by
  refine ex1 ?_
  rw [fi33]
  simp only [Try.f33, Option.getD]
  simp (maxSteps := 1000000) (disch := omega) [cellsAt, getCells, takeN, dropN, fieldAddrA, allOne, AV.one, n_push, storeCellsA, putN, overN, St.push, St.get, St.set, hget, hset, blt_dec, buildA, sizesOf, fillA, putCells, List.take_succ_cons, List.take_zero, List.drop_succ_cons, List.drop_zero, List.nil_append, List.cons_append, List.length_cons, List.length_nil, eqvs_dgs, convA, c1, c2, hm, c4, hb, c5]
theorem r33 (l : List Int) (hl : l.length < 3000000) (r : Int) : FnV TT 33 [.lst l.length (ints l), .int .i64 r] (valRif l r) := by
  have c1 := fun σ : St => v91 l l.length rfl hl σ [.lst l.length (ints l)] rfl
  have c2 := fun σ : St => c92 r 0 5 σ
  unfold valRif
  cases h : (isO l && inR r 0 5) with
  | true =>
    simp only [Bool.and_eq_true] at h
    obtain ⟨h1, h2⟩ := h
    obtain ⟨b1, b2⟩ := isO_b h1
    obtain ⟨e1, e2, e3⟩ := risN_b b1
    have hr := inR_iff.1 h2
    rw [h1] at c1
    rw [h2] at c2
    obtain ⟨k, rfl⟩ : ∃ k : Nat, r = k := ⟨r.toNat, by omega⟩
    have c4 := fun σ : St => v94 l l.length rfl b2 b1 h1 σ [.lst l.length (ints l)] rfl
    rw [e1] at c4
    have hrn := rn_le b2 (show k ≤ 5 by omega)
    have hm : wrapA .i64 ((k : Int) * (l.length : Int)) = ((k * l.length : Nat) : Int) := by rw [← Int.natCast_mul]; exact wrapA_id (by omega) (by omega)
    rw [if_pos rfl, Int.toNat_natCast]
    by_cases hb : k * l.length ≤ 59
    · have hf := chance_fits l.length (risN l) k b2 e3 (by omega) hb
      have c5 := r95 l.length (risN l) k b2 e3 (by omega)
      rw [frA_yes hf]
      exact FnV.mk fn33 rfl md33 (k33c _ _ _ _ _ _ _ c1 c2 hm c4 (by omega) (fun σ => c5 σ _ rfl)) (fun _ => rfl) rfl
    · have hk : k = 5 ∧ l.length = 12 := by
        have h4 : k = 5 := by
          refine Nat.le_antisymm (by omega) (Nat.not_lt.1 fun hlt => ?_)
          have : k * l.length ≤ 4 * 12 := Nat.mul_le_mul (by omega) b2
          omega
        subst h4
        omega
      obtain ⟨rfl, h12⟩ := hk
      have c5 := r93 (risN l) e2 (by omega)
      have e12 : ((12 : Nat) : Int) = 12 := rfl
      rw [h12] at c1 c4 hm ⊢
      generalize chance 12 (risN l) 5 = d at *
      have f1 := frA_frz d
      have f2 := frA_scal d
      obtain ⟨a, b, c, hR⟩ := frA_is d
      rw [hR] at c5 f1 f2 ⊢
      exact FnV.mk fn33 rfl md33 (k33g 12 _ _ _ _ a b c c1 c2 hm c4 (by decide) (fun σ => c5 σ _ rfl)) f1 f2
  | false => exact FnV.mk fn33 rfl md33 (k33f _ _ _ _ _ c1 c2 h) (fun _ => rfl) rfl

theorem r26 (a b : Int) : FnV TT 26 [.agg [.int .i64 a, .int .i64 b], .agg [.int .i64 a, .int .i64 b]] (.bool true) := by
  refine FnV.mk (c := Try.f26.body.getD .skip) fn26 rfl md26 (ex1 ?_) (fun _ => rfl) rfl
  rw [fi26]
  simp only [Try.f26, Option.getD]
  simp (maxSteps := 1000000) (disch := omega) [cellsAt, getCells, takeN, dropN, fieldAddrA, allOne, AV.one, n_push, storeCellsA, putN, overN, St.push, St.get, St.set, hget, hset, blt_dec, buildA, sizesOf, fillA, putCells, List.take_succ_cons, List.take_zero, List.drop_succ_cons, List.drop_zero, List.nil_append, List.cons_append, List.length_cons, List.length_nil, eqvs_dgs]

set_option maxHeartbeats 4000000 in
theorem z9 (n : Nat) (cells : List AV) (r : Int) (hn : 1048576 < n) :
    ∃ σ', exI TT (FI.of Try.f9 (TT.an 9)) [.code (Try.f9.body.getD .skip)] (paramsE 0 [.lst n cells, .int .i64 r]) ⟨[], 0⟩ = some (.bool true, σ') := by
  refine ex1 ?_
  rw [fi9]
  simp only [Try.f9, Option.getD]
  simp (maxSteps := 1000000) (disch := omega) [cellsAt, getCells, takeN, dropN, fieldAddrA, allOne, AV.one, n_push, storeCellsA, putN, overN, St.push, St.get, St.set, hget, hset, blt_dec, buildA, sizesOf, fillA, putCells, List.take_succ_cons, List.take_zero, List.drop_succ_cons, List.drop_zero, List.nil_append, List.cons_append, List.length_cons, List.length_nil, eqvs_dgs, convA, hn]
set_option maxHeartbeats 4000000 in
theorem k9 (n : Nat) (cells : List AV) (r : Int) (a b : Int) (c : Bool) (hn : n ≤ 1048576) (c1 : ∀ σ, callI TT 34 [.lst n cells] σ = some (.lst n cells, σ)) (c2 : ∀ σ, callI TT 33 [.lst n cells, .int .i64 r] σ = some (.tup [.agg [.int .i64 a, .int .i64 b], .bool c], σ)) (c3 : ∀ σ, callI TT 35 [.lst n cells, .int .i64 r] σ = some (.tup [.agg [.int .i64 a, .int .i64 b], .bool c], σ)) (c4 : ∀ σ, callI TT 26 [.agg [.int .i64 a, .int .i64 b], .agg [.int .i64 a, .int .i64 b]] σ = some (.bool true, σ)) (c5 : ∀ σ, callI TT 36 [.lst n cells, .lst n cells] σ = some (.bool true, σ)) :
    ∃ σ', exI TT (FI.of Try.f9 (TT.an 9)) [.code (Try.f9.body.getD .skip)] (paramsE 0 [.lst n cells, .int .i64 r]) ⟨[], 0⟩ = some (.bool true, σ') := by
  refine ex1 ?_
  rw [fi9]
  simp only [Try.f9, Option.getD]
  cases c <;>
  simp (maxSteps := 1000000) (disch := omega) [cellsAt, getCells, takeN, dropN, fieldAddrA, allOne, AV.one, n_push, storeCellsA, putN, overN, St.push, St.get, St.set, hget, hset, blt_dec, buildA, sizesOf, fillA, putCells, List.take_succ_cons, List.take_zero, List.drop_succ_cons, List.drop_zero, List.nil_append, List.cons_append, List.length_cons, List.length_nil, eqvs_dgs, convA, hn, c1, c2, c3, c4, c5]
theorem w9 (l : List Int) (r : Int) : FnV TT 9 [.lst l.length (ints l), .int .i64 r] (.bool true) := by
  by_cases hn : 1048576 < l.length
  · exact FnV.mk fn9 rfl md9 (z9 _ _ _ hn) (fun _ => rfl) rfl
  · have hl : l.length < 3000000 := by omega
    have c2 := r33 l hl r
    have c3 := r35 l hl r
    obtain ⟨a, b, c, hR⟩ := valRif_is l r
    rw [hR] at c2 c3
    exact FnV.mk fn9 rfl md9 (k9 _ _ _ a b c (by omega) (fun σ => (s34 l l.length rfl (by omega)).pure σ rfl rfl) (fun σ => c2 σ _ rfl) (fun σ => c3 σ _ rfl) (fun σ => r26 a b σ _ rfl) (fun σ => by have h := v36 l l l.length l.length rfl rfl (by omega) σ [.lst l.length (ints l), .lst l.length (ints l)] rfl; simpa using h)) (fun _ => rfl) rfl

end Go.Proofs.Ytihoeimlkbjgmaa
