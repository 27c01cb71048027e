/- Contracts: orders, ways to choose, chances and distances after riffles; the law on riffles. Nothing is claimed here; no condition. -/
import Derived.Test.YtihoeimlkbjgmaaQc
import Derived.Test.YtihoeimlkbjgmaaXf
set_option linter.unusedSimpArgs false
set_option linter.unusedVariables false
namespace Go.Proofs.Ytihoeimlkbjgmaa
open Go Go.Abs Go.Nm
attribute [local simp] xI_seq xI_region xI_ret regA regOps runOps opStep wantedA opA evo evos calleeA lk nif_eq putE paramsE valS val2 keepE restrict finA resA binA binInt ofConst ofConst1 loadA TK.isAgg asVar unA builtinA lenOpA lenA indexAddrA evPairs storeA AV.cellsOf pairsOf xI_nil binBool gcE evOpt runTr pairsOk pairOk sameVal AV.eqv lastOf lstAt eqvs boundA indexA regF twoOf prsOf memI runTrF selF runTr2 freshOp scals AV.scal xI_block xI_loopH xI_condM xI_exitM xI_skip xI_blk exitA List.getElem?_cons_zero List.getElem?_cons_succ List.getElem?_toArray List.getElem?_nil ileb_t ileb_f ieqb_t ieqb_f inB_t wrapA_id lp_read ieqb_self Nat.blt_eq cond_true cond_false ty2 ty3 ty4 ty22 ty25 ty41 ty48 ty58 ty76 ty90 ty92 ty97 ty99 ty101 ty104
def inR (n lo hi : Int) : Bool := decide (lo ≤ n) && decide (n ≤ hi)
theorem c63 (n lo hi : Int) (σ : St) : callI TT 63 [.int .i64 n, .int .i64 lo, .int .i64 hi] σ = some (.bool (inR n lo hi), σ) := by
  refine (FnV.mk (args' := [.int .i64 n, .int .i64 lo, .int .i64 hi]) fn63 rfl md63 ⟨⟨[], 0⟩, ?_⟩ (fun _ => rfl) rfl) σ _ rfl
  rw [fi63]
  by_cases h1 : lo ≤ n <;> simp [xI_seq, xI_region, xI_ret, regA, regOps, runOps, opStep, wantedA, opA, evo, evos, calleeA, lk, nif_eq, putE, paramsE, valS, val2, keepE, restrict, finA, resA, binA, binInt, ofConst, ofConst1, loadA, TK.isAgg, asVar, unA, builtinA, lenOpA, lenA, ileb_cast, ileb_eq, ieqb_dec, indexAddrA, inB_dec, evPairs, storeA, AV.cellsOf, pairsOf, xI_nil, binBool, gcE, evOpt, inR, h1]

theorem v98 (l : List Int) (n : Nat) : FnV TT 98 [.lst n (ints l)] (.int .i64 n) := by
  refine FnV.mk fn98 rfl md98 ⟨⟨[], 0⟩, ?_⟩ (fun _ => rfl) rfl
  rw [fi98]
  simp [xI_seq, xI_region, xI_ret, regA, regOps, runOps, opStep, wantedA, opA, evo, evos, calleeA, lk, nif_eq, putE, paramsE, valS, val2, keepE, restrict, finA, resA, binA, binInt, ofConst, ofConst1, loadA, TK.isAgg, asVar, unA, builtinA, lenOpA, lenA, ileb_cast, ileb_eq, ieqb_dec, indexAddrA, inB_dec, evPairs, storeA, AV.cellsOf, pairsOf, xI_nil, binBool, gcE, evOpt, ty2, ty48]
def allR (l : List Int) (lo hi : Int) : Bool := l.all fun n => inR n lo hi
theorem c184 (n lo hi : Int) (σ : St) (p q : Nat) (x y : Blk) (hp : σ.get p = some x) (hx : x.cells = [.int .i64 lo]) (hq : σ.get q = some y) (hy : y.cells = [.int .i64 hi]) : callI TT 184 [.int .i64 n, .ptr p 0, .ptr q 0] σ = some (.bool (!inR n lo hi), σ) := by
  rw [cI_0 fn184 rfl md184, fi184]
  simp [xI_seq, xI_region, xI_ret, regA, regOps, runOps, opStep, wantedA, opA, evo, evos, calleeA, lk, nif_eq, putE, paramsE, valS, val2, keepE, restrict, finA, resA, binA, binInt, ofConst, ofConst1, loadA, TK.isAgg, asVar, unA, builtinA, lenOpA, lenA, ileb_cast, ileb_eq, ieqb_dec, indexAddrA, inB_dec, evPairs, storeA, AV.cellsOf, pairsOf, xI_nil, binBool, gcE, evOpt, xI_block, xI_loopH, xI_condM, xI_exitM, xI_skip, xI_blk, exitA, ty2, ty4, c63, cellsAt, hp, hx, hq, hy, getCells, takeN, dropN]

noncomputable def b198 : Code := Try.f198.body.getD .skip
noncomputable def B198_0 : Code := (bodyC (bodyC (sndC (fstC (sndC b198)))))
noncomputable def K198_0 : List It := .lp B198_0 :: .blk 0 :: .code (sndC (sndC b198)) :: []
theorem xl198_0 {fi : FI} {env : Env} {σ : St} : exI TT fi K198_0 env σ = exI TT fi (.code B198_0 :: K198_0) env σ := by unfold K198_0; exact xI_lp
noncomputable def R198_0_0 : List It := .code (sndC (sndC b198)) :: []
theorem eK198_0_0 : exitA 0 K198_0 = some R198_0_0 := rfl
theorem l198 (l : List Int) (len : Nat) (hlen : len = l.length) (hs : len < 3000000) (lo hi : Int) (σ : St) (p q : Nat) (x y : Blk) (hp : σ.get p = some x) (hx : x.cells = [.int .i64 lo]) (hq : σ.get q = some y) (hy : y.cells = [.int .i64 hi]) : ∀ (suf pre : List Int), l = pre ++ suf →
    ∃ r : Int, exI TT (FI.of Try.f198 (TT.an 198)) K198_0 [(0, .lst len (ints l)), (1, .fn 184 [] [.ptr p 0, .ptr q 0]), (7, .int .i64 len), (8, .int .i64 pre.length)] σ = some (.int .i64 r, σ) ∧ decide (0 ≤ r) = !allR suf lo hi := by
  intro suf
  induction suf with
  | nil =>
    intro pre hl
    refine ⟨-1, ?_, by simp [allR]⟩
    have hl : len = pre.length := by rw [hlen, hl]; simp
    subst hl
    rw [fi198]
    rw [xl198_0]
    simp only [B198_0, b198, Try.f198, Option.getD, fstC, sndC, bodyC, thnC, elsC]
    simp [xI_seq, xI_region, xI_ret, regA, regOps, runOps, opStep, wantedA, opA, evo, evos, calleeA, lk, nif_eq, putE, paramsE, valS, val2, keepE, restrict, finA, resA, binA, binInt, ofConst, ofConst1, loadA, TK.isAgg, asVar, unA, builtinA, lenOpA, lenA, ileb_cast, ileb_eq, ieqb_dec, indexAddrA, inB_dec, evPairs, storeA, AV.cellsOf, pairsOf, xI_nil, binBool, gcE, evOpt, xI_block, xI_loopH, xI_condM, xI_exitM, xI_skip, xI_blk, exitA, ty2, ty3, ty48, eK198_0_0]
    simp only [R198_0_0, b198, Try.f198, Option.getD, fstC, sndC, bodyC, thnC, elsC]
    simp [xI_seq, xI_region, xI_ret, regA, regOps, runOps, opStep, wantedA, opA, evo, evos, calleeA, lk, nif_eq, putE, paramsE, valS, val2, keepE, restrict, finA, resA, binA, binInt, ofConst, ofConst1, loadA, TK.isAgg, asVar, unA, builtinA, lenOpA, lenA, ileb_cast, ileb_eq, ieqb_dec, indexAddrA, inB_dec, evPairs, storeA, AV.cellsOf, pairsOf, xI_nil, binBool, gcE, evOpt, xI_block, xI_loopH, xI_condM, xI_exitM, xI_skip, xI_blk, exitA, ty2, ty3, ty48, eK198_0_0]
  | cons n suf ih =>
    intro pre hl
    have hll : len = pre.length + (suf.length + 1) := by rw [hlen, hl]; simp
    have hg : l[pre.length]? = some n := by simp [hl]
    obtain ⟨r, h1, h2⟩ := ih (pre ++ [n]) (by simp [hl])
    have hlt : ¬ len ≤ pre.length := by omega
    have hlt2 : pre.length < len := by omega
    have hw := wrapS (n := pre.length) (by omega)
    have hc := c184 n lo hi σ p q x y hp hx hq hy
    simp only [List.length_append, List.length_singleton] at h1
    cases hin : inR n lo hi with
    | true =>
      rw [hin] at hc
      refine ⟨r, ?_, by rw [h2]; simp [allR, hin]⟩
      rw [fi198] at h1 ⊢
      rw [xl198_0]
      simp only [B198_0, b198, Try.f198, Option.getD, fstC, sndC, bodyC, thnC, elsC]
      simp [xI_seq, xI_region, xI_ret, regA, regOps, runOps, opStep, wantedA, opA, evo, evos, calleeA, lk, nif_eq, putE, paramsE, valS, val2, keepE, restrict, finA, resA, binA, binInt, ofConst, ofConst1, loadA, TK.isAgg, asVar, unA, builtinA, lenOpA, lenA, ileb_cast, ileb_eq, ieqb_dec, indexAddrA, inB_dec, evPairs, storeA, AV.cellsOf, pairsOf, xI_nil, binBool, gcE, evOpt, xI_block, xI_loopH, xI_condM, xI_exitM, xI_skip, xI_blk, exitA, ty2, ty3, ty48, eK198_0_0, hw, hlt, hlt2, lst_read hg, hc]
      simpa using h1
    | false =>
      rw [hin] at hc
      refine ⟨pre.length, ?_, by simp [allR, hin]⟩
      rw [fi198]
      rw [xl198_0]
      simp only [B198_0, b198, Try.f198, Option.getD, fstC, sndC, bodyC, thnC, elsC]
      simp [xI_seq, xI_region, xI_ret, regA, regOps, runOps, opStep, wantedA, opA, evo, evos, calleeA, lk, nif_eq, putE, paramsE, valS, val2, keepE, restrict, finA, resA, binA, binInt, ofConst, ofConst1, loadA, TK.isAgg, asVar, unA, builtinA, lenOpA, lenA, ileb_cast, ileb_eq, ieqb_dec, indexAddrA, inB_dec, evPairs, storeA, AV.cellsOf, pairsOf, xI_nil, binBool, gcE, evOpt, xI_block, xI_loopH, xI_condM, xI_exitM, xI_skip, xI_blk, exitA, ty2, ty3, ty48, eK198_0_0, hw, hlt, hlt2, lst_read hg, hc]

theorem c183 (l : List Int) (len : Nat) (hlen : len = l.length) (hs : len < 3000000) (lo hi : Int) (σ : St) (p q : Nat) (x y : Blk) (hp : σ.get p = some x) (hx : x.cells = [.int .i64 lo]) (hq : σ.get q = some y) (hy : y.cells = [.int .i64 hi]) :
    callI TT 183 [.lst len (ints l), .fn 184 [] [.ptr p 0, .ptr q 0]] σ = some (.bool (!allR l lo hi), σ) := by
  obtain ⟨r, h1, h2⟩ := l198 l len hlen hs lo hi σ p q x y hp hx hq hy l [] rfl
  have hc : callI TT 198 [.lst len (ints l), .fn 184 [] [.ptr p 0, .ptr q 0]] σ = some (.int .i64 r, σ) := by
    rw [cI_0 fn198 rfl md198, ← h1, fi198]
    simp [xI_seq, xI_region, xI_ret, regA, regOps, runOps, opStep, wantedA, opA, evo, evos, calleeA, lk, nif_eq, putE, paramsE, valS, val2, keepE, restrict, finA, resA, binA, binInt, ofConst, ofConst1, loadA, TK.isAgg, asVar, unA, builtinA, lenOpA, lenA, ileb_cast, ileb_eq, ieqb_dec, indexAddrA, inB_dec, evPairs, storeA, AV.cellsOf, pairsOf, xI_nil, binBool, gcE, evOpt, xI_block, xI_loopH, xI_condM, xI_exitM, xI_skip, xI_blk, exitA, ty2, ty3, ty48, eK198_0_0]
    rfl
  rw [cI_0 fn183 rfl md183, fi183]
  simp [xI_seq, xI_region, xI_ret, regA, regOps, runOps, opStep, wantedA, opA, evo, evos, calleeA, lk, nif_eq, putE, paramsE, valS, val2, keepE, restrict, finA, resA, binA, binInt, ofConst, ofConst1, loadA, TK.isAgg, asVar, unA, builtinA, lenOpA, lenA, ileb_cast, ileb_eq, ieqb_dec, indexAddrA, inB_dec, evPairs, storeA, AV.cellsOf, pairsOf, xI_nil, binBool, gcE, evOpt, xI_block, xI_loopH, xI_condM, xI_exitM, xI_skip, xI_blk, exitA, ty3, hc, h2]

theorem v153 (l : List Int) (len : Nat) (hlen : len = l.length) (hs : len < 3000000) (lo hi : Int) : FnV TT 153 [.lst len (ints l), .int .i64 lo, .int .i64 hi] (.bool (allR l lo hi)) := by
  have h := c183 l len hlen hs lo hi (((⟨[], 0⟩ : St).push ⟨[.int .i64 lo], 1, false⟩).push ⟨[.int .i64 hi], 1, false⟩) 0 1 _ _ rfl rfl rfl rfl
  refine FnV.mk fn153 rfl md153 ⟨((⟨[], 0⟩ : St).push ⟨[.int .i64 lo], 1, false⟩).push ⟨[.int .i64 hi], 1, false⟩, ?_⟩ (fun _ => rfl) rfl
  rw [fi153]
  simp [xI_seq, xI_region, xI_ret, regA, regOps, runOps, opStep, wantedA, opA, evo, evos, calleeA, lk, nif_eq, putE, paramsE, valS, val2, keepE, restrict, finA, resA, binA, binInt, ofConst, ofConst1, loadA, TK.isAgg, asVar, unA, builtinA, lenOpA, lenA, ileb_cast, ileb_eq, ieqb_dec, indexAddrA, inB_dec, evPairs, storeA, AV.cellsOf, pairsOf, xI_nil, binBool, gcE, evOpt, xI_block, xI_loopH, xI_condM, xI_exitM, xI_skip, xI_blk, exitA, ty2, ty4, h, allOne, AV.one, n_push]

theorem inR_iff {n lo hi : Int} : inR n lo hi = true ↔ lo ≤ n ∧ n ≤ hi := by simp [inR]
/-- Exchange. -/
def swp (l : List Int) (i j : Nat) : List Int := (l.set i (l.getD j 0)).set j (l.getD i 0)
theorem swp_length (l : List Int) (i j : Nat) : (swp l i j).length = l.length := by simp [swp]
theorem getD_get {l : List Int} {i : Nat} (h : i < l.length) : l[i]? = some (l.getD i 0) := by simp [h]
/-- Where a number stands first; -1 if nowhere. -/
def ixF (x : Int) : List Int → Nat → Int
  | [], _ => -1
  | y :: r, k => if x = y then k else ixF x r (k + 1)
noncomputable def b158 : Code := Try.f158.body.getD .skip
noncomputable def B158_0 : Code := (bodyC (bodyC (sndC (fstC (sndC b158)))))
noncomputable def K158_0 : List It := .lp B158_0 :: .blk 0 :: .code (sndC (sndC b158)) :: []
theorem xl158_0 {fi : FI} {env : Env} {σ : St} : exI TT fi K158_0 env σ = exI TT fi (.code B158_0 :: K158_0) env σ := by unfold K158_0; exact xI_lp
noncomputable def R158_0_0 : List It := .code (sndC (sndC b158)) :: []
theorem eK158_0_0 : exitA 0 K158_0 = some R158_0_0 := rfl
theorem l158 (l : List Int) (len : Nat) (hlen : len = l.length) (hs : len < 3000000) (x : Int) (σ : St) : ∀ (suf pre : List Int), l = pre ++ suf →
    exI TT (FI.of Try.f158 (TT.an 158)) K158_0 [(0, .lst len (ints l)), (1, .int .i64 x), (7, .int .i64 len), (8, .int .i64 pre.length)] σ = some (.int .i64 (ixF x suf pre.length), σ) := by
  intro suf
  induction suf with
  | nil =>
    intro pre hl
    have hll : len = pre.length := by rw [hlen, hl]; simp
    subst hll
    rw [fi158]
    rw [xl158_0]
    simp only [B158_0, b158, Try.f158, Option.getD, fstC, sndC, bodyC, thnC, elsC]
    simp [xI_seq, xI_region, xI_ret, regA, regOps, runOps, opStep, wantedA, opA, evo, evos, calleeA, lk, nif_eq, putE, paramsE, valS, val2, keepE, restrict, finA, resA, binA, binInt, ofConst, ofConst1, loadA, TK.isAgg, asVar, unA, builtinA, lenOpA, lenA, ileb_cast, ileb_eq, ieqb_dec, indexAddrA, inB_dec, evPairs, storeA, AV.cellsOf, pairsOf, xI_nil, binBool, gcE, evOpt, xI_block, xI_loopH, xI_condM, xI_exitM, xI_skip, xI_blk, exitA, ty2, ty3, ty48, eK158_0_0]
    simp only [R158_0_0, b158, Try.f158, Option.getD, fstC, sndC, bodyC, thnC, elsC]
    simp [xI_seq, xI_region, xI_ret, regA, regOps, runOps, opStep, wantedA, opA, evo, evos, calleeA, lk, nif_eq, putE, paramsE, valS, val2, keepE, restrict, finA, resA, binA, binInt, ofConst, ofConst1, loadA, TK.isAgg, asVar, unA, builtinA, lenOpA, lenA, ileb_cast, ileb_eq, ieqb_dec, indexAddrA, inB_dec, evPairs, storeA, AV.cellsOf, pairsOf, xI_nil, binBool, gcE, evOpt, xI_block, xI_loopH, xI_condM, xI_exitM, xI_skip, xI_blk, exitA, ty2, ty3, ty48, eK158_0_0, ixF]
  | cons y suf ih =>
    intro pre hl
    have hll : len = pre.length + (suf.length + 1) := by rw [hlen, hl]; simp
    have hg : l[pre.length]? = some y := by simp [hl]
    have h1 := ih (pre ++ [y]) (by simp [hl])
    simp only [List.length_append, List.length_singleton] at h1
    have hlt : ¬ len ≤ pre.length := by omega
    have hlt2 : pre.length < len := by omega
    have hw := wrapS (n := pre.length) (by omega)
    by_cases hxy : x = y
    · subst hxy
      rw [fi158]
      rw [xl158_0]
      simp only [B158_0, b158, Try.f158, Option.getD, fstC, sndC, bodyC, thnC, elsC]
      simp [xI_seq, xI_region, xI_ret, regA, regOps, runOps, opStep, wantedA, opA, evo, evos, calleeA, lk, nif_eq, putE, paramsE, valS, val2, keepE, restrict, finA, resA, binA, binInt, ofConst, ofConst1, loadA, TK.isAgg, asVar, unA, builtinA, lenOpA, lenA, ileb_cast, ileb_eq, ieqb_dec, indexAddrA, inB_dec, evPairs, storeA, AV.cellsOf, pairsOf, xI_nil, binBool, gcE, evOpt, xI_block, xI_loopH, xI_condM, xI_exitM, xI_skip, xI_blk, exitA, ty2, ty3, ty48, eK158_0_0, hw, hlt, hlt2, lst_read hg, ixF]
    · rw [show ixF x (y :: suf) pre.length = ixF x suf (pre.length + 1) by simp [ixF, hxy]]
      rw [fi158] at h1 ⊢
      rw [xl158_0]
      simp only [B158_0, b158, Try.f158, Option.getD, fstC, sndC, bodyC, thnC, elsC]
      simp [xI_seq, xI_region, xI_ret, regA, regOps, runOps, opStep, wantedA, opA, evo, evos, calleeA, lk, nif_eq, putE, paramsE, valS, val2, keepE, restrict, finA, resA, binA, binInt, ofConst, ofConst1, loadA, TK.isAgg, asVar, unA, builtinA, lenOpA, lenA, ileb_cast, ileb_eq, ieqb_dec, indexAddrA, inB_dec, evPairs, storeA, AV.cellsOf, pairsOf, xI_nil, binBool, gcE, evOpt, xI_block, xI_loopH, xI_condM, xI_exitM, xI_skip, xI_blk, exitA, ty2, ty3, ty48, eK158_0_0, hw, hlt, hlt2, lst_read hg, hxy]
      simpa using h1
theorem v158 (l : List Int) (len : Nat) (hlen : len = l.length) (hs : len < 3000000) (x : Int) (σ : St) (args : List AV) (ha : args = [.lst len (ints l), .int .i64 x]) : callI TT 158 args σ = some (.int .i64 (ixF x l 0), σ) := by
  subst ha
  rw [cI_0 fn158 rfl md158]
  have h := l158 l len hlen hs x σ l [] rfl
  rw [fi158] at h ⊢
  simp [xI_seq, xI_region, xI_ret, regA, regOps, runOps, opStep, wantedA, opA, evo, evos, calleeA, lk, nif_eq, putE, paramsE, valS, val2, keepE, restrict, finA, resA, binA, binInt, ofConst, ofConst1, loadA, TK.isAgg, asVar, unA, builtinA, lenOpA, lenA, ileb_cast, ileb_eq, ieqb_dec, indexAddrA, inB_dec, evPairs, storeA, AV.cellsOf, pairsOf, xI_nil, binBool, gcE, evOpt, xI_block, xI_loopH, xI_condM, xI_exitM, xI_skip, xI_blk, exitA, ty2, ty3, ty48, eK158_0_0]
  exact h

/-- A number put among rising ones, once. -/
def put (x : Int) : List Int → List Int
  | [] => [x]
  | y :: r => if x ≤ y then (if x < y then x :: y :: r else y :: r) else y :: put x r
theorem c221 (n : Int) (σ : St) : callI TT 221 [.int .i64 n] σ = some (.bool false, σ) := by
  refine (FnV.mk (args' := [.int .i64 n]) fn221 rfl md221 ⟨⟨[], 0⟩, ?_⟩ (fun _ => rfl) rfl) σ _ rfl
  rw [fi221]
  simp [xI_seq, xI_region, xI_ret, regA, regOps, runOps, opStep, wantedA, opA, evo, evos, calleeA, lk, nif_eq, putE, paramsE, valS, val2, keepE, restrict, finA, resA, binA, binInt, ofConst, ofConst1, loadA, TK.isAgg, asVar, unA, builtinA, lenOpA, lenA, ileb_cast, ileb_eq, ieqb_dec, indexAddrA, inB_dec, evPairs, storeA, AV.cellsOf, pairsOf, xI_nil, binBool, gcE, evOpt, xI_block, xI_loopH, xI_condM, xI_exitM, xI_skip, xI_blk, exitA, ty2]

theorem c212 (a b : Int) (σ : St) : callI TT 212 [.int .i64 a, .int .i64 b] σ = some (.bool (decide (a < b)), σ) := by
  refine (FnV.mk (args' := [.int .i64 a, .int .i64 b]) fn212 rfl md212 ⟨⟨[], 0⟩, ?_⟩ (fun _ => rfl) rfl) σ _ rfl
  rw [fi212]
  by_cases h : a < b
  · have h2 : ¬ b ≤ a := by omega
    simp [xI_seq, xI_region, xI_ret, regA, regOps, runOps, opStep, wantedA, opA, evo, evos, calleeA, lk, nif_eq, putE, paramsE, valS, val2, keepE, restrict, finA, resA, binA, binInt, ofConst, ofConst1, loadA, TK.isAgg, asVar, unA, builtinA, lenOpA, lenA, ileb_cast, ileb_eq, ieqb_dec, indexAddrA, inB_dec, evPairs, storeA, AV.cellsOf, pairsOf, xI_nil, binBool, gcE, evOpt, xI_block, xI_loopH, xI_condM, xI_exitM, xI_skip, xI_blk, exitA, ty2, ty4, c221, h, h2]
  · have h2 : b ≤ a := by omega
    simp [xI_seq, xI_region, xI_ret, regA, regOps, runOps, opStep, wantedA, opA, evo, evos, calleeA, lk, nif_eq, putE, paramsE, valS, val2, keepE, restrict, finA, resA, binA, binInt, ofConst, ofConst1, loadA, TK.isAgg, asVar, unA, builtinA, lenOpA, lenA, ileb_cast, ileb_eq, ieqb_dec, indexAddrA, inB_dec, evPairs, storeA, AV.cellsOf, pairsOf, xI_nil, binBool, gcE, evOpt, xI_block, xI_loopH, xI_condM, xI_exitM, xI_skip, xI_blk, exitA, ty2, ty4, c221, h, h2]
/-- A number let sink to its place among those ahead of it. -/
def bub : Nat → List Int → List Int
  | 0, l => l
  | j + 1, l => if l.getD (j + 1) 0 < l.getD j 0 then bub j (swp l (j + 1) j) else l
theorem bub_length : ∀ (j : Nat) (l : List Int), (bub j l).length = l.length
  | 0, _ => rfl
  | j + 1, l => by
    simp only [bub]
    split
    · rw [bub_length j, swp_length]
    · rfl
def isrt : Nat → Nat → List Int → List Int
  | 0, _, l => l
  | m + 1, i, l => isrt m (i + 1) (bub i l)
theorem isrt_length : ∀ (m i : Nat) (l : List Int), (isrt m i l).length = l.length
  | 0, _, _ => rfl
  | m + 1, i, l => by rw [isrt, isrt_length m, bub_length]

noncomputable def b206 : Code := Try.f206.body.getD .skip
noncomputable def B206_0 : Code := (bodyC (bodyC (sndC b206)))
noncomputable def K206_0 : List It := .lp B206_0 :: .blk 0 :: []
theorem xl206_0 {fi : FI} {env : Env} {σ : St} : exI TT fi K206_0 env σ = exI TT fi (.code B206_0 :: K206_0) env σ := by unfold K206_0; exact xI_lp
noncomputable def R206_0_0 : List It := []
theorem eK206_0_0 : exitA 0 K206_0 = some R206_0_0 := rfl
noncomputable def B206_1 : Code := (bodyC (bodyC (sndC (bodyC (fstC (sndC (bodyC (bodyC (sndC b206)))))))))
noncomputable def K206_1 : List It := .lp B206_1 :: .blk 2 :: .blk 1 :: .code (sndC (sndC (bodyC (bodyC (sndC b206))))) :: K206_0
theorem xl206_1 {fi : FI} {env : Env} {σ : St} : exI TT fi K206_1 env σ = exI TT fi (.code B206_1 :: K206_1) env σ := by unfold K206_1; exact xI_lp
noncomputable def R206_1_2 : List It := .blk 1 :: .code (sndC (sndC (bodyC (bodyC (sndC b206))))) :: K206_0
theorem eK206_1_2 : exitA 2 K206_1 = some R206_1_2 := rfl
noncomputable def R206_1_1 : List It := .code (sndC (sndC (bodyC (bodyC (sndC b206))))) :: K206_0
theorem eK206_1_1 : exitA 1 K206_1 = some R206_1_1 := rfl
theorem eK206_1_0 : exitA 0 K206_1 = some R206_0_0 := rfl
theorem l206_1 (b n i : Nat) (hn : n < 1000) : ∀ (j : Nat) (σ : St) (l : List Int), j < n → l.length = n → Row σ b l →
    ∃ σ' j', exI TT (FI.of Try.f206 (TT.an 206)) K206_1 [(0, .sl b 0 n n), (1, .int .i64 0), (2, .int .i64 n), (6, .int .i64 i), (7, .int .i64 j)] σ = exI TT (FI.of Try.f206 (TT.an 206)) R206_1_2 [(0, .sl b 0 n n), (1, .int .i64 0), (2, .int .i64 n), (6, .int .i64 i), (7, .int .i64 j'), (30, .bool false)] σ' ∧ Row σ' b (bub j l) ∧ But b σ σ' := by
  intro j
  induction j with
  | zero =>
    intro σ l hj hl hr
    refine ⟨σ, 0, ?_, hr, rfl, fun _ _ => rfl⟩
    rw [fi206]
    rw [xl206_1]
    simp only [B206_1, b206, Try.f206, Option.getD, fstC, sndC, bodyC, thnC, elsC]
    simp [xI_seq, xI_region, xI_ret, regA, regOps, runOps, opStep, wantedA, opA, evo, evos, calleeA, lk, nif_eq, putE, paramsE, valS, val2, keepE, restrict, finA, resA, binA, binInt, ofConst, ofConst1, loadA, TK.isAgg, asVar, unA, builtinA, lenOpA, lenA, ileb_cast, ileb_eq, ieqb_dec, indexAddrA, inB_dec, evPairs, storeA, AV.cellsOf, pairsOf, xI_nil, binBool, gcE, evOpt, xI_block, xI_loopH, xI_condM, xI_exitM, xI_skip, xI_blk, exitA, ty2, ty3, ty48, eK206_0_0, eK206_1_2, eK206_1_1, eK206_1_0]
  | succ j ih =>
    intro σ l hj hl hr
    have g1 := hr.read (getD_get (l := l) (i := j + 1) (by omega))
    have g2 := hr.read (getD_get (l := l) (i := j) (by omega))
    have hlt2 : (j : Int) + 1 < (n : Int) := by omega
    have hlt3 : (j : Int) < (n : Int) := by omega
    have hjn : j < n := by omega
    have hz : (0 : Int) ≤ (j : Int) + 1 := by omega
    have hz2 : ¬ (j : Int) + 1 ≤ 0 := by omega
    have htn : ((j : Int) + 1).toNat = j + 1 := by omega
    have hw1 : wrapA .i64 (j : Int) = (j : Int) := wrapA_id (by omega) (by omega)
    rw [show ((j + 1 : Nat) : Int) = (j : Int) + 1 by omega]
    by_cases hlt : l.getD (j + 1) 0 < l.getD j 0
    · obtain ⟨σ1, s1, r1, n1, o1⟩ := store_row (i := j + 1) (x := l.getD j 0) hr (by omega)
      obtain ⟨σ2, s2, r2, n2, o2⟩ := store_row (i := j) (x := l.getD (j + 1) 0) r1 (by simp; omega)
      obtain ⟨σ', j', h1, h2, h3, h4⟩ := ih σ2 (swp l (j + 1) j) (by omega) (by rw [swp_length]; exact hl) r2
      have hb : bub (j + 1) l = bub j (swp l (j + 1) j) := by simp only [bub]; rw [if_pos hlt]
      rw [hb]
      refine ⟨σ', j', ?_, h2, h3.trans (n2.trans n1), fun c hc => (h4 c hc).trans ((o2 c hc).trans (o1 c hc))⟩
      generalize l.getD (j + 1) 0 = u at *
      generalize l.getD j 0 = v at *
      rw [fi206] at h1 ⊢
      rw [xl206_1]
      simp only [B206_1, b206, Try.f206, Option.getD, fstC, sndC, bodyC, thnC, elsC]
      simp [xI_seq, xI_region, xI_ret, regA, regOps, runOps, opStep, wantedA, opA, evo, evos, calleeA, lk, nif_eq, putE, paramsE, valS, val2, keepE, restrict, finA, resA, binA, binInt, ofConst, ofConst1, loadA, TK.isAgg, asVar, unA, builtinA, lenOpA, lenA, ileb_cast, ileb_eq, ieqb_dec, indexAddrA, inB_dec, evPairs, storeA, AV.cellsOf, pairsOf, xI_nil, binBool, gcE, evOpt, xI_block, xI_loopH, xI_condM, xI_exitM, xI_skip, xI_blk, exitA, ty2, ty3, ty48, eK206_0_0, eK206_1_2, eK206_1_1, eK206_1_0, c212, g1, g2, s1, s2, hlt, hlt2, hlt3, hz, hz2, htn, hw1, hjn]
      exact h1
    · have hb : bub (j + 1) l = l := by simp only [bub]; rw [if_neg hlt]
      rw [hb]
      refine ⟨σ, (j : Int) + 1, ?_, hr, rfl, fun _ _ => rfl⟩
      generalize l.getD (j + 1) 0 = u at *
      generalize l.getD j 0 = v at *
      have hlt5 : v ≤ u := by omega
      rw [fi206]
      rw [xl206_1]
      simp only [B206_1, b206, Try.f206, Option.getD, fstC, sndC, bodyC, thnC, elsC]
      simp [xI_seq, xI_region, xI_ret, regA, regOps, runOps, opStep, wantedA, opA, evo, evos, calleeA, lk, nif_eq, putE, paramsE, valS, val2, keepE, restrict, finA, resA, binA, binInt, ofConst, ofConst1, loadA, TK.isAgg, asVar, unA, builtinA, lenOpA, lenA, ileb_cast, ileb_eq, ieqb_dec, indexAddrA, inB_dec, evPairs, storeA, AV.cellsOf, pairsOf, xI_nil, binBool, gcE, evOpt, xI_block, xI_loopH, xI_condM, xI_exitM, xI_skip, xI_blk, exitA, ty2, ty3, ty48, eK206_0_0, eK206_1_2, eK206_1_1, eK206_1_0, c212, g1, g2, hlt, hlt5, hlt2, hlt3, hz, hz2, htn, hw1, hjn]
theorem l206_0 (b n : Nat) (hn : n < 1000) : ∀ (m i : Nat) (σ : St) (l : List Int), 1 ≤ i → (i + m = n ∨ (m = 0 ∧ n ≤ i ∧ i ≤ 1000)) → l.length = n → Row σ b l →
    ∃ σ', exI TT (FI.of Try.f206 (TT.an 206)) K206_0 [(0, .sl b 0 n n), (1, .int .i64 0), (2, .int .i64 n), (6, .int .i64 i)] σ = some (.tup [], σ') ∧ Row σ' b (isrt m i l) ∧ But b σ σ' := by
  intro m
  induction m with
  | zero =>
    intro i σ l h1i hi hl hr
    have hle : n ≤ i := by omega
    refine ⟨σ, ?_, hr, rfl, fun _ _ => rfl⟩
    rw [fi206]
    rw [xl206_0]
    simp only [B206_0, b206, Try.f206, Option.getD, fstC, sndC, bodyC, thnC, elsC]
    simp [xI_seq, xI_region, xI_ret, regA, regOps, runOps, opStep, wantedA, opA, evo, evos, calleeA, lk, nif_eq, putE, paramsE, valS, val2, keepE, restrict, finA, resA, binA, binInt, ofConst, ofConst1, loadA, TK.isAgg, asVar, unA, builtinA, lenOpA, lenA, ileb_cast, ileb_eq, ieqb_dec, indexAddrA, inB_dec, evPairs, storeA, AV.cellsOf, pairsOf, xI_nil, binBool, gcE, evOpt, xI_block, xI_loopH, xI_condM, xI_exitM, xI_skip, xI_blk, exitA, ty2, ty3, ty48, eK206_0_0, eK206_1_2, eK206_1_1, eK206_1_0, hle]
    simp only [R206_0_0, b206, Try.f206, Option.getD, fstC, sndC, bodyC, thnC, elsC]
    simp [xI_seq, xI_region, xI_ret, regA, regOps, runOps, opStep, wantedA, opA, evo, evos, calleeA, lk, nif_eq, putE, paramsE, valS, val2, keepE, restrict, finA, resA, binA, binInt, ofConst, ofConst1, loadA, TK.isAgg, asVar, unA, builtinA, lenOpA, lenA, ileb_cast, ileb_eq, ieqb_dec, indexAddrA, inB_dec, evPairs, storeA, AV.cellsOf, pairsOf, xI_nil, binBool, gcE, evOpt, xI_block, xI_loopH, xI_condM, xI_exitM, xI_skip, xI_blk, exitA, ty2, ty3, ty48, eK206_0_0, eK206_1_2, eK206_1_1, eK206_1_0]
  | succ m ih =>
    intro i σ l h1i hi hl hr
    have hlt : ¬ n ≤ i := by omega
    have hw : wrapA .i64 ((i : Int) + 1) = (i : Int) + 1 := wrapS (by omega)
    obtain ⟨σ1, j', h1, h2, h3, h4⟩ := l206_1 b n i hn i σ l (by omega) hl hr
    obtain ⟨σ', h5, h6, h7, h8⟩ := ih (i + 1) σ1 (bub i l) (by omega) (by omega) (by rw [bub_length]; exact hl) h2
    refine ⟨σ', ?_, h6, h7.trans h3, fun c hc => (h8 c hc).trans (h4 c hc)⟩
    rw [show ((i + 1 : Nat) : Int) = (i : Int) + 1 by omega] at h5
    have h9 : exI TT (FI.of Try.f206 (TT.an 206)) R206_1_2 [(0, .sl b 0 n n), (1, .int .i64 0), (2, .int .i64 n), (6, .int .i64 i), (7, .int .i64 j'), (30, .bool false)] σ1 = some (.tup [], σ') := by
      rw [fi206] at h5 ⊢
      simp only [R206_1_2, b206, Try.f206, Option.getD, fstC, sndC, bodyC, thnC, elsC]
      simp [xI_seq, xI_region, xI_ret, regA, regOps, runOps, opStep, wantedA, opA, evo, evos, calleeA, lk, nif_eq, putE, paramsE, valS, val2, keepE, restrict, finA, resA, binA, binInt, ofConst, ofConst1, loadA, TK.isAgg, asVar, unA, builtinA, lenOpA, lenA, ileb_cast, ileb_eq, ieqb_dec, indexAddrA, inB_dec, evPairs, storeA, AV.cellsOf, pairsOf, xI_nil, binBool, gcE, evOpt, xI_block, xI_loopH, xI_condM, xI_exitM, xI_skip, xI_blk, exitA, ty2, ty3, ty48, eK206_0_0, eK206_1_2, eK206_1_1, eK206_1_0, hw]
      exact h5
    rw [h9] at h1
    rw [fi206] at h1 ⊢
    rw [xl206_0]
    simp only [B206_0, b206, Try.f206, Option.getD, fstC, sndC, bodyC, thnC, elsC]
    simp [xI_seq, xI_region, xI_ret, regA, regOps, runOps, opStep, wantedA, opA, evo, evos, calleeA, lk, nif_eq, putE, paramsE, valS, val2, keepE, restrict, finA, resA, binA, binInt, ofConst, ofConst1, loadA, TK.isAgg, asVar, unA, builtinA, lenOpA, lenA, ileb_cast, ileb_eq, ieqb_dec, indexAddrA, inB_dec, evPairs, storeA, AV.cellsOf, pairsOf, xI_nil, binBool, gcE, evOpt, xI_block, xI_loopH, xI_condM, xI_exitM, xI_skip, xI_blk, exitA, ty2, ty3, ty48, eK206_0_0, eK206_1_2, eK206_1_1, eK206_1_0, hlt]
    exact h1
theorem m206 (σ : St) (b n : Nat) (l : List Int) (hn : n = l.length) (hs : n < 1000) (hr : Row σ b l) :
    ∃ σ', callI TT 206 [.sl b 0 n n, .int .i64 0, .int .i64 n] σ = some (.tup [], σ') ∧ Row σ' b (isrt (n - 1) 1 l) ∧ But b σ σ' := by
  obtain ⟨σ', h1, h2, h3⟩ := l206_0 b n hs (n - 1) 1 σ l (by omega) (by omega) hn.symm hr
  refine ⟨σ', ?_, h2, h3⟩
  have hw : wrapA .i64 1 = 1 := rfl
  rw [cI_0 fn206 rfl md206]
  rw [fi206] at h1 ⊢
  simp [xI_seq, xI_region, xI_ret, regA, regOps, runOps, opStep, wantedA, opA, evo, evos, calleeA, lk, nif_eq, putE, paramsE, valS, val2, keepE, restrict, finA, resA, binA, binInt, ofConst, ofConst1, loadA, TK.isAgg, asVar, unA, builtinA, lenOpA, lenA, ileb_cast, ileb_eq, ieqb_dec, indexAddrA, inB_dec, evPairs, storeA, AV.cellsOf, pairsOf, xI_nil, binBool, gcE, evOpt, xI_block, xI_loopH, xI_condM, xI_exitM, xI_skip, xI_blk, exitA, ty2, ty3, ty48, eK206_0_0, eK206_1_2, eK206_1_1, eK206_1_0, hw]
  exact h1

theorem m200 (σ : St) (b n : Nat) (l : List Int) (k : Int) (hn : n = l.length) (hs : n ≤ 12) (hr : Row σ b l) :
    ∃ σ', callI TT 200 [.sl b 0 n n, .int .i64 0, .int .i64 n, .int .i64 k] σ = some (.tup [], σ') ∧ Row σ' b (isrt (n - 1) 1 l) ∧ But b σ σ' := by
  obtain ⟨σ', h1, h2, h3⟩ := m206 σ b n l hn (by omega) hr
  refine ⟨σ', ?_, h2, h3⟩
  have hw : wrapA .i64 (n : Int) = n := wrapA_id (by omega) (by omega)
  have hle : (n : Int) ≤ 12 := by omega
  rw [cI_0 fn200 rfl md200, fi200]
  simp [xI_seq, xI_region, xI_ret, regA, regOps, runOps, opStep, wantedA, opA, evo, evos, calleeA, lk, nif_eq, putE, paramsE, valS, val2, keepE, restrict, finA, resA, binA, binInt, ofConst, ofConst1, loadA, TK.isAgg, asVar, unA, builtinA, lenOpA, lenA, ileb_cast, ileb_eq, ieqb_dec, indexAddrA, inB_dec, evPairs, storeA, AV.cellsOf, pairsOf, xI_nil, binBool, gcE, evOpt, xI_block, xI_loopH, xI_condM, xI_exitM, xI_skip, xI_blk, exitA, ty2, ty3, ty4, ty48, ty205, xI_lp, hw, hle, h1]

theorem v201_0 : ∃ r, FnV TT 201 [.int .u64 0] (.int .i64 r) := ⟨0, FnV.mk fn201 rfl md201 ⟨⟨[], 0⟩, exI_iff.2 ⟨10000, by kernel_rfl⟩⟩ (fun _ => rfl) rfl⟩
theorem v201_1 : ∃ r, FnV TT 201 [.int .u64 1] (.int .i64 r) := ⟨1, FnV.mk fn201 rfl md201 ⟨⟨[], 0⟩, exI_iff.2 ⟨10000, by kernel_rfl⟩⟩ (fun _ => rfl) rfl⟩
theorem v201_2 : ∃ r, FnV TT 201 [.int .u64 2] (.int .i64 r) := ⟨2, FnV.mk fn201 rfl md201 ⟨⟨[], 0⟩, exI_iff.2 ⟨10000, by kernel_rfl⟩⟩ (fun _ => rfl) rfl⟩
theorem v201_3 : ∃ r, FnV TT 201 [.int .u64 3] (.int .i64 r) := ⟨2, FnV.mk fn201 rfl md201 ⟨⟨[], 0⟩, exI_iff.2 ⟨10000, by kernel_rfl⟩⟩ (fun _ => rfl) rfl⟩
theorem v201_4 : ∃ r, FnV TT 201 [.int .u64 4] (.int .i64 r) := ⟨3, FnV.mk fn201 rfl md201 ⟨⟨[], 0⟩, exI_iff.2 ⟨10000, by kernel_rfl⟩⟩ (fun _ => rfl) rfl⟩
theorem v201_5 : ∃ r, FnV TT 201 [.int .u64 5] (.int .i64 r) := ⟨3, FnV.mk fn201 rfl md201 ⟨⟨[], 0⟩, exI_iff.2 ⟨10000, by kernel_rfl⟩⟩ (fun _ => rfl) rfl⟩
theorem v201_6 : ∃ r, FnV TT 201 [.int .u64 6] (.int .i64 r) := ⟨3, FnV.mk fn201 rfl md201 ⟨⟨[], 0⟩, exI_iff.2 ⟨10000, by kernel_rfl⟩⟩ (fun _ => rfl) rfl⟩
theorem v201_7 : ∃ r, FnV TT 201 [.int .u64 7] (.int .i64 r) := ⟨3, FnV.mk fn201 rfl md201 ⟨⟨[], 0⟩, exI_iff.2 ⟨10000, by kernel_rfl⟩⟩ (fun _ => rfl) rfl⟩
theorem v201_8 : ∃ r, FnV TT 201 [.int .u64 8] (.int .i64 r) := ⟨4, FnV.mk fn201 rfl md201 ⟨⟨[], 0⟩, exI_iff.2 ⟨10000, by kernel_rfl⟩⟩ (fun _ => rfl) rfl⟩
theorem v201_9 : ∃ r, FnV TT 201 [.int .u64 9] (.int .i64 r) := ⟨4, FnV.mk fn201 rfl md201 ⟨⟨[], 0⟩, exI_iff.2 ⟨10000, by kernel_rfl⟩⟩ (fun _ => rfl) rfl⟩
theorem v201_10 : ∃ r, FnV TT 201 [.int .u64 10] (.int .i64 r) := ⟨4, FnV.mk fn201 rfl md201 ⟨⟨[], 0⟩, exI_iff.2 ⟨10000, by kernel_rfl⟩⟩ (fun _ => rfl) rfl⟩
theorem v201_11 : ∃ r, FnV TT 201 [.int .u64 11] (.int .i64 r) := ⟨4, FnV.mk fn201 rfl md201 ⟨⟨[], 0⟩, exI_iff.2 ⟨10000, by kernel_rfl⟩⟩ (fun _ => rfl) rfl⟩
theorem v201_12 : ∃ r, FnV TT 201 [.int .u64 12] (.int .i64 r) := ⟨4, FnV.mk fn201 rfl md201 ⟨⟨[], 0⟩, exI_iff.2 ⟨10000, by kernel_rfl⟩⟩ (fun _ => rfl) rfl⟩
theorem v201 (n : Nat) (hn : n ≤ 12) : ∃ r, FnV TT 201 [.int .u64 n] (.int .i64 r) := by
  have h : n = 0 ∨ n = 1 ∨ n = 2 ∨ n = 3 ∨ n = 4 ∨ n = 5 ∨ n = 6 ∨ n = 7 ∨ n = 8 ∨ n = 9 ∨ n = 10 ∨ n = 11 ∨ n = 12 := by omega
  rcases h with rfl | rfl | rfl | rfl | rfl | rfl | rfl | rfl | rfl | rfl | rfl | rfl | rfl
  · exact v201_0
  · exact v201_1
  · exact v201_2
  · exact v201_3
  · exact v201_4
  · exact v201_5
  · exact v201_6
  · exact v201_7
  · exact v201_8
  · exact v201_9
  · exact v201_10
  · exact v201_11
  · exact v201_12
theorem m186 (σ : St) (b n : Nat) (l : List Int) (hn : n = l.length) (hs : n ≤ 12) (hr : Row σ b l) :
    ∃ σ', callI TT 186 [.sl b 0 n n] σ = some (.tup [], σ') ∧ Row σ' b (isrt (n - 1) 1 l) ∧ But b σ σ' := by
  obtain ⟨r, hv⟩ := v201 n hs
  obtain ⟨σ', h1, h2, h3⟩ := m200 σ b n l r hn hs hr
  refine ⟨σ', ?_, h2, h3⟩
  have hw : wrapA .u64 (n : Int) = n := by rw [wrapA_eq]; simp [IntKind.wrap, IntKind.bits, IntKind.signed]; omega
  have hb := hv σ [.int .u64 n] rfl
  rw [cI_0 fn186 rfl md186, fi186]
  simp [xI_seq, xI_region, xI_ret, regA, regOps, runOps, opStep, wantedA, opA, evo, evos, calleeA, lk, nif_eq, putE, paramsE, valS, val2, keepE, restrict, finA, resA, binA, binInt, ofConst, ofConst1, loadA, TK.isAgg, asVar, unA, builtinA, lenOpA, lenA, ileb_cast, ileb_eq, ieqb_dec, indexAddrA, inB_dec, evPairs, storeA, AV.cellsOf, pairsOf, xI_nil, binBool, gcE, evOpt, xI_block, xI_loopH, xI_condM, xI_exitM, xI_skip, xI_blk, exitA, ty2, ty3, ty48, ty58, convA, hw, hb, h1]

/-! ### Sinking numbers are put -/
theorem mem_put (x c : Int) : ∀ l : List Int, c ∈ put x l ↔ c = x ∨ c ∈ l
  | [] => by simp [put]
  | y :: r => by
    have h := mem_put x c r
    simp only [put]
    split
    · split
      · simp
      · rename_i h1 h2
        have : x = y := by omega
        subst this; simp
    · simp only [List.mem_cons, h]
      constructor
      · rintro (h | h | h) <;> simp [h]
      · rintro (h | h | h) <;> simp [h]
theorem put_snoc {x y : Int} (hxy : x < y) : ∀ s : List Int, x ∉ s → put x (s ++ [y]) = put x s ++ [y]
  | [], _ => by simp [put, hxy, Int.le_of_lt hxy]
  | z :: r, h => by
    have h1 : x ≠ z := fun e => h (by simp [e])
    have h2 := put_snoc hxy r (fun hm => h (by simp [hm]))
    simp only [List.cons_append, put]
    split
    · split
      · simp
      · omega
    · rw [h2]; simp
theorem put_all {x : Int} : ∀ s : List Int, (∀ c ∈ s, c < x) → put x s = s ++ [x]
  | [], _ => rfl
  | z :: r, h => by
    have h1 := h z (by simp)
    rw [put, if_neg (by omega), put_all r (fun c hc => h c (by simp [hc]))]; rfl
theorem put_len {x : Int} : ∀ s : List Int, x ∉ s → (put x s).length = s.length + 1
  | [], _ => rfl
  | z :: r, h => by
    have h1 : x ≠ z := fun e => h (by simp [e])
    have h2 := put_len (x := x) r (fun hm => h (by simp [hm]))
    simp only [put]
    split
    · split
      · simp
      · omega
    · simp [h2]
theorem put_rises {x : Int} : ∀ s : List Int, s.Pairwise (· < ·) → (put x s).Pairwise (· < ·)
  | [], _ => by simp [put]
  | z :: r, h => by
    have h1 := List.pairwise_cons.1 h
    simp only [put]
    split
    · split
      · rename_i h2 h3
        exact List.pairwise_cons.2 ⟨fun c hc => by
          rcases List.mem_cons.1 hc with rfl | hc
          · exact h3
          · have := h1.1 c hc; omega, h⟩
      · exact h
    · rename_i h2
      exact List.pairwise_cons.2 ⟨fun c hc => by
        rcases (mem_put x c r).1 hc with rfl | hc
        · omega
        · exact h1.1 c hc, put_rises r h1.2⟩
theorem bub_put : ∀ (n : Nat) (s rest : List Int) (x : Int), s.length = n → s.Pairwise (· < ·) → x ∉ s → bub n (s ++ x :: rest) = put x s ++ rest
  | 0, s, rest, x, hn, _, _ => by
    have : s = [] := List.length_eq_zero_iff.1 hn
    subst this; rfl
  | n + 1, s, rest, x, hn, hp, hx => by
    obtain ⟨s', y, rfl⟩ : ∃ s' y, s = s' ++ [y] := ⟨s.dropLast, s.getLast (by intro e; simp [e] at hn), (List.dropLast_concat_getLast _).symm⟩
    have hn' : s'.length = n := by simpa using hn
    have hp' := List.pairwise_append.1 hp
    subst hn'
    have e1 : (s' ++ [y] ++ x :: rest)[s'.length + 1]? = some x := by rw [List.getElem?_append_right (by simp)]; simp
    have e2 : (s' ++ [y] ++ x :: rest)[s'.length]? = some y := by simp
    have g1 : (s' ++ [y] ++ x :: rest).getD (s'.length + 1) 0 = x := by rw [List.getD_eq_getElem?_getD, e1]; rfl
    have g2 : (s' ++ [y] ++ x :: rest).getD s'.length 0 = y := by rw [List.getD_eq_getElem?_getD, e2]; rfl
    have hx1 : x ∉ s' := fun h => hx (by simp [h])
    have hxy : x ≠ y := fun e => hx (by simp [e])
    simp only [bub, g1, g2]
    split
    · rename_i h
      have hs : swp (s' ++ [y] ++ x :: rest) (s'.length + 1) s'.length = s' ++ x :: (y :: rest) := by
        unfold swp
        rw [g1, g2]
        simp [List.set_append]
      rw [hs, bub_put s'.length s' (y :: rest) x rfl hp'.1 hx1, put_snoc h s' hx1]; simp
    · rename_i h
      rw [put_all (s' ++ [y]) (fun c hc => by
        rcases List.mem_append.1 hc with hc | hc
        · have := hp'.2.2 c hc y (by simp); omega
        · have : c = y := by simpa using hc
          omega)]
      simp
theorem isrt_put : ∀ (rest s : List Int), s.Pairwise (· < ·) → (∀ c ∈ rest, c ∉ s) → rest.Nodup → isrt rest.length s.length (s ++ rest) = rest.foldl (fun s x => put x s) s
  | [], s, _, _, _ => by simp [isrt]
  | x :: rest, s, hp, hd, hn => by
    have hx := hd x (by simp)
    have hn' := List.nodup_cons.1 hn
    rw [List.length_cons, isrt, bub_put s.length s rest x rfl hp hx, List.foldl_cons, ← put_len s hx]
    exact isrt_put rest (put x s) (put_rises s hp) (fun c hc h => by
      rcases (mem_put x c s).1 h with rfl | h
      · exact hn'.1 hc
      · exact hd c (by simp [hc]) h) hn'.2
/-- Sorting different numbers is putting one after another. -/
theorem sort_put (l : List Int) (hn : l.Nodup) : isrt (l.length - 1) 1 l = l.foldl (fun s x => put x s) [] := by
  cases l with
  | nil => rfl
  | cons a r =>
    have hn' := List.nodup_cons.1 hn
    have h := isrt_put r [a] (by simp) (fun c hc h => by simp at h; subst h; exact hn'.1 hc) hn'.2
    simpa [put] using h

/-- Whether numbers are an order of as many things. -/
def isO (l : List Int) : Bool := inR l.length 1 12 && (allR l 0 ((l.length : Int) - 1) && decide l.Nodup)
theorem swp_perm {l : List Int} {i j : Nat} (hi : i < l.length) (hj : j < l.length) : (swp l i j).Perm l := by
  have h := List.set_set_perm hi hj
  unfold swp
  rw [List.getD_eq_getElem?_getD, List.getD_eq_getElem?_getD, List.getElem?_eq_getElem hi, List.getElem?_eq_getElem hj]
  exact h
theorem bub_perm : ∀ (j : Nat) (l : List Int), j < l.length → (bub j l).Perm l
  | 0, _, _ => List.Perm.refl _
  | j + 1, l, h => by
    simp only [bub]
    split
    · exact (bub_perm j _ (by rw [swp_length]; omega)).trans (swp_perm h (by omega))
    · exact List.Perm.refl _
theorem isrt_perm : ∀ (m i : Nat) (l : List Int), i + m ≤ l.length → (isrt m i l).Perm l
  | 0, _, _, _ => List.Perm.refl _
  | m + 1, i, l, h => by
    rw [isrt]
    exact (isrt_perm m (i + 1) _ (by rw [bub_length]; omega)).trans (bub_perm i l (by omega))
def chain : Int → List Int → Bool
  | _, [] => true
  | y, x :: r => decide (y < x) && chain x r
theorem chain_iff : ∀ (r : List Int) (y : Int), chain y r = true ↔ (y :: r).Pairwise (· < ·)
  | [], y => by simp [chain]
  | x :: r, y => by
    have ih := chain_iff r x
    rw [chain, Bool.and_eq_true, decide_eq_true_eq, ih]
    constructor
    · rintro ⟨h1, h2⟩
      refine List.pairwise_cons.2 ⟨fun c hc => ?_, h2⟩
      rcases List.mem_cons.1 hc with rfl | hc
      · exact h1
      · have := (List.pairwise_cons.1 h2).1 c hc; omega
    · intro h
      have h' := List.pairwise_cons.1 h
      exact ⟨h'.1 x (by simp), h'.2⟩
theorem fold_rises : ∀ (l s : List Int), s.Pairwise (· < ·) → (l.foldl (fun s x => put x s) s).Pairwise (· < ·)
  | [], _, h => h
  | x :: l, s, h => fold_rises l (put x s) (put_rises s h)
def incS : List Int → Bool
  | [] => true
  | y :: r => chain y r
theorem incS_iff {s : List Int} : incS s = true ↔ s.Pairwise (· < ·) := by
  cases s with
  | nil => simp [incS]
  | cons y r => exact chain_iff r y
/-- What is sorted rises just where nothing is repeated. -/
theorem sorted_nodup (l : List Int) (h : 1 ≤ l.length) : incS (isrt (l.length - 1) 1 l) = decide l.Nodup := by
  rw [Bool.eq_iff_iff, incS_iff, decide_eq_true_eq]
  constructor
  · intro hp
    have hn : (isrt (l.length - 1) 1 l).Nodup := hp.imp fun h => by omega
    exact (isrt_perm _ _ _ (by omega)).nodup hn
  · intro hn
    rw [sort_put l hn]
    exact fold_rises l [] List.Pairwise.nil

noncomputable def b154 : Code := Try.f154.body.getD .skip
noncomputable def B154_0 : Code := (bodyC (bodyC (sndC (fstC (sndC b154)))))
noncomputable def K154_0 : List It := .lp B154_0 :: .blk 0 :: .code (sndC (sndC b154)) :: []
theorem xl154_0 {fi : FI} {env : Env} {σ : St} : exI TT fi K154_0 env σ = exI TT fi (.code B154_0 :: K154_0) env σ := by unfold K154_0; exact xI_lp
noncomputable def R154_0_0 : List It := .code (sndC (sndC b154)) :: []
theorem eK154_0_0 : exitA 0 K154_0 = some R154_0_0 := rfl
theorem l154 (s : List Int) (len : Nat) (hlen : len = s.length) (hs : len < 3000000) (σ : St) : ∀ (suf pre : List Int) (y : Int), s = pre ++ y :: suf →
    exI TT (FI.of Try.f154 (TT.an 154)) K154_0 [(0, .lst len (ints s)), (3, .int .i64 (pre.length + 1 : Nat))] σ = some (.bool (chain y suf), σ) := by
  intro suf
  induction suf with
  | nil =>
    intro pre y hp
    have hll : len = pre.length + 1 := by rw [hlen, hp]; simp
    subst hll
    simp only [Int.natCast_add, show ((1 : Nat) : Int) = 1 from rfl]
    rw [fi154]
    rw [xl154_0]
    simp only [B154_0, b154, Try.f154, Option.getD, fstC, sndC, bodyC, thnC, elsC]
    simp [xI_seq, xI_region, xI_ret, regA, regOps, runOps, opStep, wantedA, opA, evo, evos, calleeA, lk, nif_eq, putE, paramsE, valS, val2, keepE, restrict, finA, resA, binA, binInt, ofConst, ofConst1, loadA, TK.isAgg, asVar, unA, builtinA, lenOpA, lenA, ileb_cast, ileb_eq, ieqb_dec, indexAddrA, inB_dec, evPairs, storeA, AV.cellsOf, pairsOf, xI_nil, binBool, gcE, evOpt, xI_block, xI_loopH, xI_condM, xI_exitM, xI_skip, xI_blk, exitA, ty2, ty3, ty48, eK154_0_0, chain]
    simp only [R154_0_0, b154, Try.f154, Option.getD, fstC, sndC, bodyC, thnC, elsC]
    simp [xI_seq, xI_region, xI_ret, regA, regOps, runOps, opStep, wantedA, opA, evo, evos, calleeA, lk, nif_eq, putE, paramsE, valS, val2, keepE, restrict, finA, resA, binA, binInt, ofConst, ofConst1, loadA, TK.isAgg, asVar, unA, builtinA, lenOpA, lenA, ileb_cast, ileb_eq, ieqb_dec, indexAddrA, inB_dec, evPairs, storeA, AV.cellsOf, pairsOf, xI_nil, binBool, gcE, evOpt, xI_block, xI_loopH, xI_condM, xI_exitM, xI_skip, xI_blk, exitA, ty2, ty3, ty48, eK154_0_0, chain]
  | cons x suf ih =>
    intro pre y hp
    have hll : len = pre.length + 1 + (suf.length + 1) := by rw [hlen, hp]; simp; omega
    have hg1 : s[pre.length]? = some y := by simp [hp]
    have hg2 : s[pre.length + 1]? = some x := by rw [hp, List.getElem?_append_right (by omega)]; simp
    have hlt : ¬ len ≤ pre.length + 1 := by omega
    have hlt' : ¬ (len : Int) ≤ (pre.length : Int) + 1 := by omega
    have hlt2 : pre.length + 1 < len := by omega
    have hlt3 : pre.length < len := by omega
    have hz : (0 : Int) ≤ (pre.length : Int) + 1 := by omega
    have hz2 : (pre.length : Int) + 1 < (len : Int) := by omega
    have hw : wrapA .i64 ((pre.length : Int) + 1 - 1) = (pre.length : Int) := by rw [show (pre.length : Int) + 1 - 1 = (pre.length : Int) by omega]; exact wrapA_id (by omega) (by omega)
    have hw0 : wrapA .i64 (pre.length : Int) = (pre.length : Int) := wrapA_id (by omega) (by omega)
    have hw2 : wrapA .i64 ((pre.length : Int) + 1 + 1) = (pre.length : Int) + 1 + 1 := wrapA_id (by omega) (by omega)
    have hn2 : ((pre.length : Int) + 1).toNat = pre.length + 1 := by omega
    have h1 := ih (pre ++ [y]) x (by simp [hp])
    simp only [List.length_append, List.length_singleton, Int.natCast_add, show ((1 : Nat) : Int) = 1 from rfl] at h1
    simp only [Int.natCast_add, show ((1 : Nat) : Int) = 1 from rfl]
    have k1 : cellsAt σ (.lp (ints s) pre.length) 1 = some [.int .i64 y] := lst_read hg1
    have k2 : cellsAt σ (.lp (ints s) (pre.length + 1)) 1 = some [.int .i64 x] := lst_read hg2
    have hin : inB ((pre.length : Int) + 1) len = true := by rw [inB_dec]; simp; omega
    by_cases hlt4 : y < x
    · have hge : ¬ x ≤ y := by omega
      rw [show chain y (x :: suf) = chain x suf by simp [chain, hlt4]]
      rw [fi154] at h1 ⊢
      rw [xl154_0]
      simp only [B154_0, b154, Try.f154, Option.getD, fstC, sndC, bodyC, thnC, elsC]
      simp [xI_seq, xI_region, xI_ret, regA, regOps, runOps, opStep, wantedA, opA, evo, evos, calleeA, lk, nif_eq, putE, paramsE, valS, val2, keepE, restrict, finA, resA, binA, binInt, ofConst, ofConst1, loadA, TK.isAgg, asVar, unA, builtinA, lenOpA, lenA, ileb_cast, ileb_eq, ieqb_dec, indexAddrA, inB_dec, evPairs, storeA, AV.cellsOf, pairsOf, xI_nil, binBool, gcE, evOpt, xI_block, xI_loopH, xI_condM, xI_exitM, xI_skip, xI_blk, exitA, ty2, ty3, ty48, eK154_0_0, runTr, pairsOk, pairOk, lstAt, lastOf, sameVal, AV.eqv, eqvs, regOps, cond_true, cond_false, hlt, hlt', hlt2, hlt3, hz, hz2, hw, hw0, hw2, hn2, k1, k2, hlt4, hge, hin]
      simpa using h1
    · have hge : x ≤ y := by omega
      rw [show chain y (x :: suf) = false by simp [chain, hlt4]]
      rw [fi154]
      rw [xl154_0]
      simp only [B154_0, b154, Try.f154, Option.getD, fstC, sndC, bodyC, thnC, elsC]
      simp [xI_seq, xI_region, xI_ret, regA, regOps, runOps, opStep, wantedA, opA, evo, evos, calleeA, lk, nif_eq, putE, paramsE, valS, val2, keepE, restrict, finA, resA, binA, binInt, ofConst, ofConst1, loadA, TK.isAgg, asVar, unA, builtinA, lenOpA, lenA, ileb_cast, ileb_eq, ieqb_dec, indexAddrA, inB_dec, evPairs, storeA, AV.cellsOf, pairsOf, xI_nil, binBool, gcE, evOpt, xI_block, xI_loopH, xI_condM, xI_exitM, xI_skip, xI_blk, exitA, ty2, ty3, ty48, eK154_0_0, runTr, pairsOk, pairOk, lstAt, lastOf, sameVal, AV.eqv, eqvs, regOps, cond_true, cond_false, hlt, hlt', hlt2, hlt3, hz, hz2, hw, hw0, hw2, hn2, k1, k2, hlt4, hge, hin]
theorem v154 (s : List Int) (len : Nat) (hlen : len = s.length) (h1 : 1 ≤ len) (hs : len < 3000000) : FnV TT 154 [.lst len (ints s)] (.bool (incS s)) := by
  cases s with
  | nil => simp at hlen; omega
  | cons y r =>
    have h := l154 (y :: r) len hlen hs ⟨[], 0⟩ r [] y rfl
    simp only [List.length_nil, Nat.zero_add, show ((1 : Nat) : Int) = 1 from rfl] at h
    refine FnV.mk fn154 rfl md154 ⟨⟨[], 0⟩, ?_⟩ (fun _ => rfl) rfl
    rw [show incS (y :: r) = chain y r from rfl, ← h, fi154]
    simp [xI_seq, xI_region, xI_ret, regA, regOps, runOps, opStep, wantedA, opA, evo, evos, calleeA, lk, nif_eq, putE, paramsE, valS, val2, keepE, restrict, finA, resA, binA, binInt, ofConst, ofConst1, loadA, TK.isAgg, asVar, unA, builtinA, lenOpA, lenA, ileb_cast, ileb_eq, ieqb_dec, indexAddrA, inB_dec, evPairs, storeA, AV.cellsOf, pairsOf, xI_nil, binBool, gcE, evOpt, xI_block, xI_loopH, xI_condM, xI_exitM, xI_skip, xI_blk, exitA, ty2, ty3, ty48, eK154_0_0]
    rfl

theorem fnx199 : TT.fn 199 = none := by kernel_rfl
theorem cext (args : List AV) (σ : St) : callI TT 199 args σ = extF 199 args σ := by
  show callA TT (exI TT) 199 args σ = _
  unfold callA
  rw [fnx199]
  rfl
theorem c156 (n : Nat) (cs : List AV) (σ : St) : callI TT 156 [.lst n cs] σ = some (.fn 187 [] [.ptr σ.n 0], σ.push ⟨[.lst n cs], 1, false⟩) := by
  rw [cI_0 fn156 rfl md156, fi156]
  simp [xI_seq, xI_region, xI_ret, regA, regOps, runOps, opStep, wantedA, opA, evo, evos, calleeA, lk, nif_eq, putE, paramsE, valS, val2, keepE, restrict, finA, resA, binA, binInt, ofConst, ofConst1, loadA, TK.isAgg, asVar, unA, builtinA, lenOpA, lenA, ileb_cast, ileb_eq, ieqb_dec, indexAddrA, inB_dec, evPairs, storeA, AV.cellsOf, pairsOf, xI_nil, binBool, gcE, evOpt, xI_block, xI_loopH, xI_condM, xI_exitM, xI_skip, xI_blk, exitA, ty2, ty4, ty48, allOne, AV.one]
theorem c185 (l : List Int) (h1 : l ≠ []) (hl : l.length ≤ 1000000) (σ : St) (c : Nat) (hc : cellsAt σ (.ptr c 0) 1 = some [.lst l.length (ints l)]) : callI TT 185 [.fn 187 [] [.ptr c 0]] σ = some (.sl σ.n 0 l.length l.length, σ.push ⟨ints l, 1, true⟩) := by
  have he : callI TT 199 [.nilS, .fn 187 [] [.ptr c 0]] σ = some (.sl σ.n 0 l.length l.length, σ.push ⟨ints l, 1, true⟩) := by
    rw [cext]
    simp [extF, hc, listOf, unints_ints, hl, h1]
  rw [cI_0 fn185 rfl md185, fi185]
  simp [xI_seq, xI_region, xI_ret, regA, regOps, runOps, opStep, wantedA, opA, evo, evos, calleeA, lk, nif_eq, putE, paramsE, valS, val2, keepE, restrict, finA, resA, binA, binInt, ofConst, ofConst1, loadA, TK.isAgg, asVar, unA, builtinA, lenOpA, lenA, ileb_cast, ileb_eq, ieqb_dec, indexAddrA, inB_dec, evPairs, storeA, AV.cellsOf, pairsOf, xI_nil, binBool, gcE, evOpt, xI_block, xI_loopH, xI_condM, xI_exitM, xI_skip, xI_blk, exitA, he]
theorem c155 (l : List Int) (h1 : l ≠ []) (hl : l.length ≤ 12) (σ : St) (c : Nat) (hc : cellsAt σ (.ptr c 0) 1 = some [.lst l.length (ints l)]) : ∃ σ', callI TT 155 [.fn 187 [] [.ptr c 0]] σ = some (.sl σ.n 0 l.length l.length, σ') ∧ Row σ' σ.n (isrt (l.length - 1) 1 l) := by
  obtain ⟨σ', c2, r2, _⟩ := m186 (σ.push ⟨ints l, 1, true⟩) σ.n l.length l rfl hl Row.push
  have c1 := c185 l h1 (by omega) σ c hc
  refine ⟨σ', ?_, r2⟩
  rw [cI_0 fn155 rfl md155, fi155]
  simp [xI_seq, xI_region, xI_ret, regA, regOps, runOps, opStep, wantedA, opA, evo, evos, calleeA, lk, nif_eq, putE, paramsE, valS, val2, keepE, restrict, finA, resA, binA, binInt, ofConst, ofConst1, loadA, TK.isAgg, asVar, unA, builtinA, lenOpA, lenA, ileb_cast, ileb_eq, ieqb_dec, indexAddrA, inB_dec, evPairs, storeA, AV.cellsOf, pairsOf, xI_nil, binBool, gcE, evOpt, xI_block, xI_loopH, xI_condM, xI_exitM, xI_skip, xI_blk, exitA, c1, c2]
theorem v96 (l : List Int) (len : Nat) (hlen : len = l.length) (hs : len < 3000000) : FnV TT 96 [.lst len (ints l)] (.bool (isO l)) := by
  subst hlen
  have e1 := fun σ => v98 l l.length σ [.lst l.length (ints l)] rfl
  have e2 := fun σ => c63 l.length 1 12 σ
  have hw1 : wrapA .i64 ((l.length : Int) - 1) = (l.length : Int) - 1 := wrapA_id (by omega) (by omega)
  have e3 := fun σ => v153 l l.length rfl (by omega) 0 ((l.length : Int) - 1) σ [.lst l.length (ints l), .int .i64 0, .int .i64 ((l.length : Int) - 1)] rfl
  unfold isO
  cases h1 : inR l.length 1 12 with
  | false =>
    simp only [h1] at e2
    refine FnV.mk fn96 rfl md96 ⟨⟨[], 0⟩, ?_⟩ (fun _ => rfl) rfl
    rw [fi96]
    simp [xI_seq, xI_region, xI_ret, regA, regOps, runOps, opStep, wantedA, opA, evo, evos, calleeA, lk, nif_eq, putE, paramsE, valS, val2, keepE, restrict, finA, resA, binA, binInt, ofConst, ofConst1, loadA, TK.isAgg, asVar, unA, builtinA, lenOpA, lenA, ileb_cast, ileb_eq, ieqb_dec, indexAddrA, inB_dec, evPairs, storeA, AV.cellsOf, pairsOf, xI_nil, binBool, gcE, evOpt, xI_block, xI_loopH, xI_condM, xI_exitM, xI_skip, xI_blk, exitA, ty2, ty4, e1, e2]
  | true =>
    simp only [h1] at e2
    cases h2 : allR l 0 ((l.length : Int) - 1) with
    | false =>
      simp only [h2] at e3
      refine FnV.mk fn96 rfl md96 ⟨⟨[], 0⟩, ?_⟩ (fun _ => rfl) rfl
      rw [fi96]
      simp [xI_seq, xI_region, xI_ret, regA, regOps, runOps, opStep, wantedA, opA, evo, evos, calleeA, lk, nif_eq, putE, paramsE, valS, val2, keepE, restrict, finA, resA, binA, binInt, ofConst, ofConst1, loadA, TK.isAgg, asVar, unA, builtinA, lenOpA, lenA, ileb_cast, ileb_eq, ieqb_dec, indexAddrA, inB_dec, evPairs, storeA, AV.cellsOf, pairsOf, xI_nil, binBool, gcE, evOpt, xI_block, xI_loopH, xI_condM, xI_exitM, xI_skip, xI_blk, exitA, ty2, ty4, e1, e2, hw1, e3]
    | true =>
      simp only [h2] at e3
      have hr := inR_iff.1 h1
      have hne : l ≠ [] := fun e => by rw [e] at hr; simp at hr
      have c1 := c156 l.length (ints l) ⟨[], 0⟩
      obtain ⟨σ1, hσ⟩ : ∃ σ1, (⟨[], 0⟩ : St).push ⟨[.lst l.length (ints l)], 1, false⟩ = σ1 := ⟨_, rfl⟩
      have hc : cellsAt σ1 (.ptr 0 0) 1 = some [.lst l.length (ints l)] := by subst hσ; simp [cellsAt, St.get, St.push, hget, nif_eq, getCells, takeN, dropN]
      obtain ⟨σ2, c2, r2⟩ := c155 l hne (by omega) σ1 0 hc
      have c3 := v154 (isrt (l.length - 1) 1 l) l.length (by rw [isrt_length]) (by omega) (by omega) σ2 [.sl σ1.n 0 l.length l.length] (mapO_cons (r2.frz (by rw [isrt_length]) (Nat.le_refl _)) rfl)
      rw [sorted_nodup l (by omega)] at c3
      rw [hσ] at c1
      simp only [Bool.true_and]
      generalize decide l.Nodup = e at *
      refine FnV.mk fn96 rfl md96 ⟨σ2, ?_⟩ (fun _ => rfl) rfl
      rw [fi96]
      simp [xI_seq, xI_region, xI_ret, regA, regOps, runOps, opStep, wantedA, opA, evo, evos, calleeA, lk, nif_eq, putE, paramsE, valS, val2, keepE, restrict, finA, resA, binA, binInt, ofConst, ofConst1, loadA, TK.isAgg, asVar, unA, builtinA, lenOpA, lenA, ileb_cast, ileb_eq, ieqb_dec, indexAddrA, inB_dec, evPairs, storeA, AV.cellsOf, pairsOf, xI_nil, binBool, gcE, evOpt, xI_block, xI_loopH, xI_condM, xI_exitM, xI_skip, xI_blk, exitA, ty2, ty4, e1, e2, hw1, e3, c1, c2, c3]

/-! ### Rising sequences: plain law -/
def risG (l : List Int) : Nat → Nat → Int → Int
  | 0, _, r => r
  | m + 1, i, r => risG l m (i + 1) (if ixF ((i : Int) + 1) l 0 < ixF i l 0 then r + 1 else r)
def ris (l : List Int) : Int := risG l (l.length - 1) 0 1
noncomputable def b99 : Code := Try.f99.body.getD .skip
noncomputable def B99_0 : Code := (bodyC (bodyC (sndC (fstC (sndC (sndC b99))))))
noncomputable def K99_0 : List It := .lp B99_0 :: .blk 0 :: .code (sndC (sndC (sndC b99))) :: []
theorem xl99_0 {fi : FI} {env : Env} {σ : St} : exI TT fi K99_0 env σ = exI TT fi (.code B99_0 :: K99_0) env σ := by unfold K99_0; exact xI_lp
noncomputable def R99_0_0 : List It := .code (sndC (sndC (sndC b99))) :: []
theorem eK99_0_0 : exitA 0 K99_0 = some R99_0_0 := rfl
set_option maxHeartbeats 1000000 in
theorem l99 (l : List Int) (len : Nat) (hlen : len = l.length) (hs : len ≤ 12) (h1 : 1 ≤ len) (σ : St) : ∀ (m i : Nat) (r : Int), i + m + 1 = len → 0 ≤ r → r ≤ i + 1 →
    exI TT (FI.of Try.f99 (TT.an 99)) K99_0 [(0, .lst len (ints l)), (3, .int .i64 r), (7, .int .i64 ((len : Int) - 1)), (8, .int .i64 i)] σ = some (.int .i64 (risG l m i r), σ) := by
  intro m
  induction m with
  | zero =>
    intro i r hi h0 hr
    rw [fi99]
    rw [xl99_0]
    simp only [B99_0, b99, Try.f99, Option.getD, fstC, sndC, bodyC, thnC, elsC]
    simp (maxSteps := 1000000) (disch := omega) [eK99_0_0]
    simp only [R99_0_0, b99, Try.f99, Option.getD, fstC, sndC, bodyC, thnC, elsC]
    simp (maxSteps := 1000000) (disch := omega) [eK99_0_0, risG]
  | succ m ih =>
    intro i r hi h0 hr
    have e1 := fun x σ => v158 l len hlen (by omega) x σ [.lst len (ints l), .int .i64 x] rfl
    rw [risG]
    by_cases hc : ixF ((i : Int) + 1) l 0 < ixF i l 0
    · rw [if_pos hc]
      have h2 := ih (i + 1) (r + 1) (by omega) (by omega) (by omega)
      rw [fi99] at h2 ⊢
      rw [xl99_0]
      simp only [B99_0, b99, Try.f99, Option.getD, fstC, sndC, bodyC, thnC, elsC]
      simp (maxSteps := 1000000) (disch := omega) [eK99_0_0, e1]
      simpa using h2
    · rw [if_neg hc]
      have h2 := ih (i + 1) r (by omega) (by omega) (by omega)
      rw [fi99] at h2 ⊢
      rw [xl99_0]
      simp only [B99_0, b99, Try.f99, Option.getD, fstC, sndC, bodyC, thnC, elsC]
      simp (maxSteps := 1000000) (disch := omega) [eK99_0_0, e1]
      simpa using h2
theorem v99 (l : List Int) (len : Nat) (hlen : len = l.length) (hs : len ≤ 12) (h1 : 1 ≤ len) : FnV TT 99 [.lst len (ints l)] (.int .i64 (ris l)) := by
  have h := l99 l len hlen hs h1 ⟨[], 0⟩ (len - 1) 0 1 (by omega) (by omega) (by omega)
  have e1 := fun σ => v98 l len σ [.lst len (ints l)] rfl
  refine FnV.mk fn99 rfl md99 ⟨⟨[], 0⟩, ?_⟩ (fun _ => rfl) rfl
  rw [ris, ← hlen, ← h]
  rw [fi99]
  simp (maxSteps := 1000000) (disch := omega) [eK99_0_0, e1]
  rfl

/-! ### Pascal's numbers -/
def ch : Nat → Nat → Nat
  | _, 0 => 1
  | 0, _ + 1 => 0
  | n + 1, k + 1 => ch n k + ch n (k + 1)
theorem ch_0 (n : Nat) : ch n 0 = 1 := by cases n <;> rfl
theorem ch_gt : ∀ (n k : Nat), n < k → ch n k = 0
  | n, 0, h => by omega
  | 0, k + 1, _ => rfl
  | n + 1, k + 1, h => by rw [ch, ch_gt n k (by omega), ch_gt n (k + 1) (by omega)]
theorem ch_self : ∀ n : Nat, ch n n = 1
  | 0 => rfl
  | n + 1 => by rw [ch, ch_self n, ch_gt n (n + 1) (by omega)]
theorem ch_step : ∀ (n k : Nat), (k + 1) * ch n (k + 1) = (n - k) * ch n k
  | 0, k => by simp [ch]
  | n + 1, 0 => by
    have h := ch_step n 0
    simp only [Nat.zero_add, Nat.one_mul, Nat.sub_zero, ch_0, Nat.mul_one] at h
    rw [show ch (n + 1) (0 + 1) = ch n 0 + ch n 1 from rfl, ch_0, ch_0, h]; omega
  | n + 1, k + 1 => by
    have h1 := ch_step n (k + 1)
    have h2 := ch_step n k
    rw [ch, ch, Nat.mul_add, h1, Nat.mul_add, show n + 1 - (k + 1) = n - k by omega, ← h2]
    rcases Nat.lt_or_ge k n with h | h
    · obtain ⟨m, rfl⟩ : ∃ m, n = k + 1 + m := ⟨n - (k + 1), by omega⟩
      rw [show k + 1 + m - (k + 1) = m by omega, show k + 1 + m - k = m + 1 by omega]
      generalize ch (k + 1 + m) (k + 1) = z
      rw [← Nat.add_mul, ← Nat.add_mul]
      congr 1; omega
    · rw [ch_gt n (k + 1) (by omega)]; simp
theorem ch_symm : ∀ (n k : Nat), k ≤ n → ch n k = ch n (n - k)
  | 0, k, h => by obtain rfl : k = 0 := by omega
                  rfl
  | n + 1, 0, _ => by rw [ch_0, Nat.sub_zero, ch_self]
  | n + 1, k + 1, h => by
    rcases Nat.lt_or_ge k n with h1 | h1
    · obtain ⟨m, hm⟩ : ∃ m, n - k = m + 1 := ⟨n - k - 1, by omega⟩
      rw [show n + 1 - (k + 1) = m + 1 by omega, ch, ch, ch_symm n k (by omega), ch_symm n (k + 1) (by omega), hm, show n - (k + 1) = m by omega, Nat.add_comm]
    · obtain rfl : k = n := by omega
      rw [ch_self, Nat.sub_self, ch_0]
def adj : List Nat → List Nat
  | a :: b :: r => (a + b) :: adj (b :: r)
  | _ => []
def prow : Nat → List Nat
  | 0 => [1]
  | n + 1 => 1 :: (adj (prow n) ++ [1])
theorem adj_length : ∀ l : List Nat, (adj l).length = l.length - 1
  | [] => rfl
  | [_] => rfl
  | a :: b :: r => by simp [adj, adj_length (b :: r)]
theorem adj_get : ∀ (l : List Nat) (i a b : Nat), l[i]? = some a → l[i + 1]? = some b → (adj l)[i]? = some (a + b)
  | [], i, a, b, h, _ => by simp at h
  | [_], i, a, b, _, h => by simp at h
  | x :: y :: r, 0, a, b, h1, h2 => by simp at h1 h2; simp [adj, h1, h2]
  | x :: y :: r, i + 1, a, b, h1, h2 => by
    simp only [List.getElem?_cons_succ] at h1 h2
    simp only [adj, List.getElem?_cons_succ]
    exact adj_get (y :: r) i a b h1 h2
theorem prow_length : ∀ n : Nat, (prow n).length = n + 1
  | 0 => rfl
  | n + 1 => by simp [prow, adj_length, prow_length n]
theorem prow_get : ∀ (n k : Nat), k ≤ n → (prow n)[k]? = some (ch n k)
  | 0, k, h => by obtain rfl : k = 0 := by omega
                  rfl
  | n + 1, 0, _ => by simp [prow, ch_0]
  | n + 1, k + 1, h => by
    simp only [prow, List.getElem?_cons_succ]
    rcases Nat.lt_or_ge k n with h1 | h1
    · rw [List.getElem?_append_left (by rw [adj_length, prow_length]; omega), adj_get _ k _ _ (prow_get n k (by omega)) (prow_get n (k + 1) (by omega))]
      rfl
    · obtain rfl : k = n := by omega
      rw [List.getElem?_append_right (by rw [adj_length, prow_length]; omega), adj_length, prow_length, ch_self]
      simp
theorem prow60 : ((List.range 61).all fun n => (prow n).all fun x => Nat.ble x 118264581564861424) = true := by kernel_rfl
theorem ch_le {n k : Nat} (hn : n ≤ 60) : ch n k ≤ 118264581564861424 := by
  rcases Nat.lt_or_ge n k with h | h
  · rw [ch_gt n k h]; omega
  · have h1 := List.all_eq_true.1 prow60 n (List.mem_range.2 (by omega))
    have h2 := List.all_eq_true.1 h1 _ (List.mem_of_getElem? (prow_get n k h))
    exact Nat.le_of_ble_eq_true h2

theorem and32 (a : Nat) (h : a ≤ 18446744073709551615) : bitsA .and .u64 (a : Int) 4294967295 = some (.int .u64 ((a % 4294967296 : Nat) : Int)) := by
  have h1 : smallNat .u64 (a : Int) 4294967295 = some (a, 4294967295) := by
    show (bif Nat.ble a (topOf .u64) && Nat.ble 4294967295 (topOf .u64) then some (a, 4294967295) else none) = _
    have : Nat.ble a (topOf .u64) = true := by rw [Nat.ble_eq]; exact h
    rw [this]; rfl
  simp only [bitsA, h1]
  have : Nat.land a 4294967295 = a % 4294967296 := Nat.and_two_pow_sub_one_eq_mod a 32
  rw [this]; rfl
theorem shr32 (a : Nat) : shrA (a : Int) 32 = ((a / 4294967296 : Nat) : Int) := rfl
theorem wrapU {n : Nat} (h : n ≤ 18446744073709551615) : wrapA .u64 (n : Int) = n := by
  rw [wrapA_eq]; simp [IntKind.wrap, IntKind.bits, IntKind.signed]; omega

theorem c188 (a b : Nat) (ha : a < 144115188075855872) (hb : b < 64) (σ : St) : callI TT 188 [.int .u64 a, .int .u64 b] σ = some (.tup [.int .u64 0, .int .u64 ((a * b : Nat) : Int)], σ) := by
  refine (FnV.mk (args' := [.int .u64 a, .int .u64 b]) fn188 rfl md188 ⟨⟨[], 0⟩, ?_⟩ (fun _ => rfl) rfl) σ _ rfl
  obtain ⟨x0, hx0⟩ : ∃ x, x = a % 4294967296 := ⟨_, rfl⟩
  obtain ⟨x1, hx1⟩ : ∃ x, x = a / 4294967296 := ⟨_, rfl⟩
  have hx0l : x0 < 4294967296 := by omega
  have hx1l : x1 < 33554432 := by omega
  have e1 := and32 a (by omega)
  have e2 := shr32 a
  have e3 := and32 b (by omega)
  have e4 := shr32 b
  rw [← hx0] at e1
  rw [← hx1] at e2
  rw [show b % 4294967296 = b by omega] at e3
  rw [show b / 4294967296 = 0 by omega] at e4
  obtain ⟨w0, hw0⟩ : ∃ w, w = x0 * b := ⟨_, rfl⟩
  have hw0l : w0 < 4294967296 * 64 := by rw [hw0]; exact Nat.mul_lt_mul'' hx0l hb
  have m1 : wrapA .u64 ((x0 : Int) * b) = w0 := by rw [← Int.natCast_mul, wrapU (by omega), hw0]
  obtain ⟨w1, hw1⟩ : ∃ w, w = x1 * b := ⟨_, rfl⟩
  have hw1l : w1 < 33554432 * 64 := by rw [hw1]; exact Nat.mul_lt_mul'' hx1l hb
  have m2 : wrapA .u64 ((x1 : Int) * b) = w1 := by rw [← Int.natCast_mul, wrapU (by omega), hw1]
  have e5 := shr32 w0
  obtain ⟨t, ht⟩ : ∃ t, t = w1 + w0 / 4294967296 := ⟨_, rfl⟩
  have htl : t < 4294967296 := by omega
  have m3 : wrapA .u64 ((w1 : Int) + (w0 / 4294967296 : Nat)) = t := by rw [← Int.natCast_add, wrapU (by omega), ht]
  have e6 := and32 t (by omega)
  have e7 := shr32 t
  rw [show t % 4294967296 = t by omega] at e6
  rw [show t / 4294967296 = 0 by omega] at e7
  have m4 : wrapA .u64 ((a : Int) * b) = ((a * b : Nat) : Int) := by
    have : a * b ≤ 144115188075855872 * 64 := Nat.mul_le_mul (by omega) (by omega)
    rw [← Int.natCast_mul, wrapU (by omega)]
  have m5 : wrapA .u64 (0 : Int) = 0 := rfl
  have m6 : wrapA .u64 (t : Int) = t := wrapU (by omega)
  obtain ⟨z, hz⟩ : ∃ z, z = w0 / 4294967296 := ⟨_, rfl⟩
  obtain ⟨ab, hab⟩ : ∃ z, z = a * b := ⟨_, rfl⟩
  rw [← hz] at e5 m3
  rw [← hab] at m4 ⊢
  rw [show ((0 : Nat) : Int) = 0 from rfl] at e4 e7
  have hmin : min 32 IntKind.u64.bits = 32 := rfl
  rw [fi188]
  simp [xI_seq, xI_region, xI_ret, regA, regOps, runOps, opStep, wantedA, opA, evo, evos, calleeA, lk, nif_eq, putE, paramsE, valS, val2, keepE, restrict, finA, resA, binA, binInt, ofConst, ofConst1, loadA, TK.isAgg, asVar, unA, builtinA, lenOpA, lenA, ileb_cast, ileb_eq, ieqb_dec, indexAddrA, inB_dec, evPairs, storeA, AV.cellsOf, pairsOf, xI_nil, binBool, gcE, evOpt, xI_block, xI_loopH, xI_condM, xI_exitM, xI_skip, xI_blk, exitA, ty143, e1, e2, e3, e4, m1, m2, e5, m3, e6, e7, m4, m5, m6, hmin]

theorem c189 (a b : Nat) (hb : 0 < b) (hb2 : b ≤ 18446744073709551615) (ha : a ≤ 18446744073709551615) (σ : St) : ∃ r : Int, callI TT 189 [.int .u64 0, .int .u64 a, .int .u64 b] σ = some (.tup [.int .u64 ((a / b : Nat) : Int), .int .u64 r], σ) := by
  refine ⟨((a : Int).tmod b), (FnV.mk (args' := [.int .u64 0, .int .u64 a, .int .u64 b]) fn189 rfl md189 ⟨⟨[], 0⟩, ?_⟩ (fun _ => rfl) rfl) σ _ rfl⟩
  have h1 : ¬ (b : Int) = 0 := by omega
  have h1' : ¬ b = 0 := by omega
  have h2 : ¬ (b : Int) ≤ 0 := by omega
  obtain ⟨q, hq⟩ : ∃ q, q = a / b := ⟨_, rfl⟩
  have hq2 : q ≤ a := by rw [hq]; exact Nat.div_le_self _ _
  have h3 : (a : Int).tdiv b = q := by rw [hq]; rfl
  have h4 : wrapA .u64 (q : Int) = q := wrapU (by omega)
  rw [← hq, fi189]
  simp [xI_seq, xI_region, xI_ret, regA, regOps, runOps, opStep, wantedA, opA, evo, evos, calleeA, lk, nif_eq, putE, paramsE, valS, val2, keepE, restrict, finA, resA, binA, binInt, ofConst, ofConst1, loadA, TK.isAgg, asVar, unA, builtinA, lenOpA, lenA, ileb_cast, ileb_eq, ieqb_dec, indexAddrA, inB_dec, evPairs, storeA, AV.cellsOf, pairsOf, xI_nil, binBool, gcE, evOpt, xI_block, xI_loopH, xI_condM, xI_exitM, xI_skip, xI_blk, exitA, ty3, ty58, ty143, ty201, h1, h1', h2, h3, h4]

theorem inR_not {n lo hi : Int} (h : ¬ (lo ≤ n ∧ n ≤ hi)) : inR n lo hi = false := by simp only [inR]; simp; omega
noncomputable def b157 : Code := Try.f157.body.getD .skip
noncomputable def B157_0 : Code := (bodyC (bodyC (sndC (fstC (sndC (sndC (sndC b157)))))))
noncomputable def K157_0 : List It := .lp B157_0 :: .blk 0 :: .code (sndC (sndC (sndC (sndC b157)))) :: []
theorem xl157_0 {fi : FI} {env : Env} {σ : St} : exI TT fi K157_0 env σ = exI TT fi (.code B157_0 :: K157_0) env σ := by unfold K157_0; exact xI_lp
noncomputable def R157_0_0 : List It := .code (sndC (sndC (sndC (sndC b157)))) :: []
theorem eK157_0_0 : exitA 0 K157_0 = some R157_0_0 := rfl
theorem l157 (n k M : Nat) (hn : n ≤ 60) (hk : k ≤ n) (hM : M = min k (n - k)) : ∀ (m j : Nat) (σ : St), j + m = M →
    exI TT (FI.of Try.f157 (TT.an 157)) K157_0 [(0, .int .i64 n), (1, .int .i64 k), (5, .int .i64 (ch n j)), (6, .int .i64 (j + 1 : Nat))] σ = some (.int .i64 (ch n M), σ) := by
  have hw0 : wrapA .i64 ((n : Int) - k) = (n : Int) - k := wrapA_id (by omega) (by omega)
  have hmin : (if (n : Int) - k < k then (n : Int) - k else (k : Int)) = M := by split <;> omega
  intro m
  induction m with
  | zero =>
    intro j σ hj
    obtain rfl : j = M := by omega
    have hlt : ¬ j + 1 ≤ j := by omega
    have hlt2 : ¬ (j : Int) + 1 ≤ j := by omega
    generalize ch n j = o
    rw [fi157]
    rw [xl157_0]
    simp only [B157_0, b157, Try.f157, Option.getD, fstC, sndC, bodyC, thnC, elsC]
    simp [xI_seq, xI_region, xI_ret, regA, regOps, runOps, opStep, wantedA, opA, evo, evos, calleeA, lk, nif_eq, putE, paramsE, valS, val2, keepE, restrict, finA, resA, binA, binInt, ofConst, ofConst1, loadA, TK.isAgg, asVar, unA, builtinA, lenOpA, lenA, ileb_cast, ileb_eq, ieqb_dec, indexAddrA, inB_dec, evPairs, storeA, AV.cellsOf, pairsOf, xI_nil, binBool, gcE, evOpt, xI_block, xI_loopH, xI_condM, xI_exitM, xI_skip, xI_blk, exitA, ty2, ty4, ty143, eK157_0_0, minmaxA, mmStep, hw0, hmin, hlt, hlt2]
    simp only [R157_0_0, b157, Try.f157, Option.getD, fstC, sndC, bodyC, thnC, elsC]
    simp [xI_seq, xI_region, xI_ret, regA, regOps, runOps, opStep, wantedA, opA, evo, evos, calleeA, lk, nif_eq, putE, paramsE, valS, val2, keepE, restrict, finA, resA, binA, binInt, ofConst, ofConst1, loadA, TK.isAgg, asVar, unA, builtinA, lenOpA, lenA, ileb_cast, ileb_eq, ieqb_dec, indexAddrA, inB_dec, evPairs, storeA, AV.cellsOf, pairsOf, xI_nil, binBool, gcE, evOpt, xI_block, xI_loopH, xI_condM, xI_exitM, xI_skip, xI_blk, exitA, ty2, ty4, ty143, eK157_0_0]
  | succ m ih =>
    intro j σ hj
    have ih1 := ih (j + 1) σ (by omega)
    have hlt : (j : Int) + 1 ≤ M := by omega
    have hst := ch_step n j
    have ho := ch_le (n := n) (k := j) hn
    have ho2 := ch_le (n := n) (k := j + 1) hn
    generalize ch n j = o at *
    generalize ch n (j + 1) = o2 at *
    have u1 : wrapA .u64 (o : Int) = o := wrapU (by omega)
    have u2 : wrapA .i64 ((n : Int) - ((j : Int) + 1)) = (n : Int) - ((j : Int) + 1) := wrapA_id (by omega) (by omega)
    have u3 : wrapA .i64 ((n : Int) - ((j : Int) + 1) + 1) = ((n - j : Nat) : Int) := by rw [wrapA_id (by omega) (by omega)]; omega
    have u4 : wrapA .u64 ((n - j : Nat) : Int) = (n - j : Nat) := wrapU (by omega)
    have u5 : wrapA .u64 ((j : Int) + 1) = ((j + 1 : Nat) : Int) := wrapU (n := j + 1) (by omega)
    have u6 : wrapA .i64 (o2 : Int) = o2 := wrapA_id (by omega) (by omega)
    have u7 : wrapA .i64 ((j : Int) + 1 + 1) = (j : Int) + 1 + 1 := wrapA_id (by omega) (by omega)
    have hlo : o * (n - j) = (j + 1) * o2 := by rw [hst]; exact Nat.mul_comm _ _
    have hlt64 : o * (n - j) ≤ 144115188075855872 * 64 := Nat.mul_le_mul (by omega) (by omega)
    have c1 := c188 o (n - j) (by omega) (by omega) σ
    obtain ⟨rr, c2⟩ := c189 (o * (n - j)) (j + 1) (by omega) (by omega) (by omega) σ
    rw [hlo, Nat.mul_div_cancel_left _ (by omega : 0 < j + 1)] at c2
    rw [hlo] at c1
    generalize hnj : n - j = d at *
    generalize hlo2 : (j + 1) * o2 = lo at *
    generalize hj1 : j + 1 = i at *
    have hj1' : (j : Int) + 1 = i := by omega
    rw [hj1'] at hlt u2 u3 u5 u7
    have hj2 : ((i + 1 : Nat) : Int) = (i : Int) + 1 := by omega
    rw [hj2] at ih1
    rw [fi157] at ih1 ⊢
    rw [xl157_0]
    simp only [B157_0, b157, Try.f157, Option.getD, fstC, sndC, bodyC, thnC, elsC]
    simp [xI_seq, xI_region, xI_ret, regA, regOps, runOps, opStep, wantedA, opA, evo, evos, calleeA, lk, nif_eq, putE, paramsE, valS, val2, keepE, restrict, finA, resA, binA, binInt, ofConst, ofConst1, loadA, TK.isAgg, asVar, unA, builtinA, lenOpA, lenA, ileb_cast, ileb_eq, ieqb_dec, indexAddrA, inB_dec, evPairs, storeA, AV.cellsOf, pairsOf, xI_nil, binBool, gcE, evOpt, xI_block, xI_loopH, xI_condM, xI_exitM, xI_skip, xI_blk, exitA, ty2, ty4, ty143, eK157_0_0, minmaxA, mmStep, hw0, hmin, hlt, convA, u1, u2, u3, u4, u5, u6, u7, c1, c2]
    exact ih1
theorem c157 (n k : Nat) (hn : n ≤ 60) (hk0 : k < 1000000) (σ : St) : callI TT 157 [.int .i64 n, .int .i64 k] σ = some (.int .i64 (ch n k), σ) := by
  refine (FnV.mk (args' := [.int .i64 n, .int .i64 k]) fn157 rfl md157 ⟨⟨[], 0⟩, ?_⟩ (fun _ => rfl) rfl) σ _ rfl
  by_cases hk : k ≤ n
  · have hin : inR (k : Int) 0 n = true := inR_iff.2 (by omega)
    have h1 := l157 n k _ hn hk rfl (min k (n - k)) 0 ⟨[], 0⟩ (by omega)
    have he : ch n (min k (n - k)) = ch n k := by
      rcases Nat.le_total k (n - k) with h | h
      · rw [Nat.min_eq_left h]
      · rw [Nat.min_eq_right h, ← ch_symm n k hk]
    rw [he, ch_0] at h1
    rw [fi157] at h1 ⊢
    simp [xI_seq, xI_region, xI_ret, regA, regOps, runOps, opStep, wantedA, opA, evo, evos, calleeA, lk, nif_eq, putE, paramsE, valS, val2, keepE, restrict, finA, resA, binA, binInt, ofConst, ofConst1, loadA, TK.isAgg, asVar, unA, builtinA, lenOpA, lenA, ileb_cast, ileb_eq, ieqb_dec, indexAddrA, inB_dec, evPairs, storeA, AV.cellsOf, pairsOf, xI_nil, binBool, gcE, evOpt, xI_block, xI_loopH, xI_condM, xI_exitM, xI_skip, xI_blk, exitA, ty2, ty4, ty143, eK157_0_0, c63, hin]
    exact h1
  · have hin : inR (k : Int) 0 n = false := inR_not (by omega)
    rw [ch_gt n k (by omega), fi157]
    simp [xI_seq, xI_region, xI_ret, regA, regOps, runOps, opStep, wantedA, opA, evo, evos, calleeA, lk, nif_eq, putE, paramsE, valS, val2, keepE, restrict, finA, resA, binA, binInt, ofConst, ofConst1, loadA, TK.isAgg, asVar, unA, builtinA, lenOpA, lenA, ileb_cast, ileb_eq, ieqb_dec, indexAddrA, inB_dec, evPairs, storeA, AV.cellsOf, pairsOf, xI_nil, binBool, gcE, evOpt, xI_block, xI_loopH, xI_condM, xI_exitM, xI_skip, xI_blk, exitA, ty2, ty4, ty143, eK157_0_0, c63, hin]

theorem pow_sh2 (i : Nat) (hi : i ≤ 60) : wrapA .i64 (shlA (1 : Int) (min i IntKind.i64.bits)) = ((2 ^ i : Nat) : Int) := by
  rw [Nat.min_eq_left (by simp [IntKind.bits]; omega)]
  have e : shlA (1 : Int) i = ((1 * 2 ^ i : Nat) : Int) := rfl
  have h : 2 ^ i ≤ 2 ^ 60 := Nat.pow_le_pow_right (by decide) hi
  rw [e, Nat.one_mul]
  exact wi64 (Nat.le_trans h (by decide))

theorem r106w {n : Int} {d : Nat} (h1 : -1000000000000000000 ≤ n) (h2 : n ≤ 1000000000000000000) (hd : 0 < d) (hd2 : d < 2305843009213693952) : FnF TT 106 [.int .i64 n, .int .i64 d] (RT (mkRat n d)) := by
  have hl := r150 (decide (n < 0)) n.natAbs d 61 hd (Nat.lt_of_le_of_lt (show n.natAbs ≤ 1000000000000000000 by omega) (by decide)) hd2 (by decide)
  rw [sg_int] at hl
  exact FnF.mkv fn106 rfl md106 (k106 n d n.natAbs _ _ _ _ _ _ _ _ _ _ (ileb_neg n) (fun σ => (v137 n (by omega) (by omega)) σ _ rfl) (fun σ => (v136 n.natAbs (by omega)).pure σ rfl rfl) (fun σ => (v136 d (by omega)).pure σ rfl rfl) (fun σ => hl.pure σ rfl rfl)) (fun _ => rfl)

def frF : AV := .tup [.agg [.int .i64 0, .int .i64 0], .bool false]
theorem frA_is (q : Rat) : ∃ a b c, frA q = .tup [.agg [.int .i64 a, .int .i64 b], .bool c] := by
  unfold frA
  split <;> exact ⟨_, _, _, rfl⟩
theorem frA_frz (q : Rat) (σ : St) : frzV σ frzDepth (frA q) = some (frA q) := by
  obtain ⟨a, b, c, h⟩ := frA_is q
  rw [h]; rfl
theorem frA_scal (q : Rat) : (frA q).scal = true := by
  obtain ⟨a, b, c, h⟩ := frA_is q
  rw [h]; rfl
theorem frA_yes {q : Rat} (h : fits q = true) : frA q = .tup [.agg [.int .i64 q.num, .int .i64 q.den], .bool true] := by rw [frA, if_pos h]
/-- The chance of an order of n things with s rising sequences after r riffles. -/
def chance (n s r : Nat) : Rat := mkRat (ch (2 ^ r + n - s) n : Nat) (2 ^ (r * n))
theorem pow_le5 {r : Nat} (h : r ≤ 5) : 2 ^ r ≤ 32 ∧ 1 ≤ 2 ^ r := ⟨Nat.pow_le_pow_right (by decide) h, Nat.one_le_two_pow⟩
theorem rn_le {n r : Nat} (hn : n ≤ 12) (hr : r ≤ 5) : r * n ≤ 60 := Nat.mul_le_mul hr hn
set_option maxHeartbeats 4000000 in
theorem k97 (n s r k : Nat) (P A m C Qd : Int) (b1 : Bool) (n1 n2 : Nat) (x1 x2 : List AV) (h1 : wrapA .i64 (shlA (1 : Int) (min r IntKind.i64.bits)) = P) (h2 : wrapA .i64 (P + n) = A) (h3 : wrapA .i64 (A - s) = m) (c1 : ∀ σ, callI TT 157 [.int .i64 m, .int .i64 n] σ = some (.int .i64 C, σ)) (h4 : wrapA .i64 ((r : Int) * n) = (k : Int)) (h5 : wrapA .i64 (shlA (1 : Int) (min k IntKind.i64.bits)) = Qd) (c2 : ∀ σ, callI TT 106 [.int .i64 C, .int .i64 Qd] σ = some (.agg [.bool b1, .lst n1 x1, .lst n2 x2], σ)) :
    ∃ σ', exI TT (FI.of Try.f97 (TT.an 97)) [.code (Try.f97.body.getD .skip)] (paramsE 0 [.int .i64 n, .int .i64 s, .int .i64 r]) ⟨[], 0⟩ = some (.agg [.bool b1, .lst n1 x1, .lst n2 x2], σ') := by
  refine ex1 ?_
  rw [fi97]
  simp only [Try.f97, Option.getD]
  simp (maxSteps := 1000000) (disch := omega) [cellsAt, getCells, takeN, dropN, fieldAddrA, allOne, AV.one, n_push, storeCellsA, putN, overN, St.push, St.get, St.set, hget, hset, blt_dec, buildA, sizesOf, fillA, putCells, List.take_succ_cons, List.take_zero, List.drop_succ_cons, List.drop_zero, List.nil_append, List.cons_append, List.length_cons, List.length_nil, eqvs_dgs, convA, h1, h2, h3, c1, h4, h5, c2]
theorem r97 (n s r : Nat) (hn : n ≤ 12) (hs : s ≤ n) (hr : r ≤ 5) : FnF TT 97 [.int .i64 n, .int .i64 s, .int .i64 r] (RT (chance n s r)) := by
  obtain ⟨p1, p2⟩ := pow_le5 hr
  have hrn := rn_le hn hr
  have hp : 2 ^ (r * n) ≤ 2 ^ 60 := Nat.pow_le_pow_right (by decide) hrn
  have hp0 : 0 < 2 ^ (r * n) := Nat.two_pow_pos _
  have hch := ch_le (n := 2 ^ r + n - s) (k := n) (by omega)
  have c1 := fun σ => c157 (2 ^ r + n - s) n (by omega) (by omega) σ
  have c2 := r106w (n := (ch (2 ^ r + n - s) n : Nat)) (d := 2 ^ (r * n)) (by omega) (by omega) hp0 (Nat.lt_of_le_of_lt hp (by decide))
  have h1 := pow_sh2 r (by omega)
  have h5 := pow_sh2 (r * n) hrn
  have h4 : wrapA .i64 ((r : Int) * n) = ((r * n : Nat) : Int) := by rw [← Int.natCast_mul]; exact wrapA_id (by omega) (by omega)
  exact FnF.mkv fn97 rfl md97 (k97 n s r (r * n) ((2 ^ r : Nat) : Int) ((2 ^ r + n : Nat) : Int) ((2 ^ r + n - s : Nat) : Int) _ _ _ _ _ _ _ h1 (by rw [← Int.natCast_add]; exact wrapA_id (by omega) (by omega)) (by rw [← Int.ofNat_sub (by omega)]; exact wrapA_id (by omega) (by omega)) c1 h4 h5 (fun σ => c2.pure σ rfl rfl)) (fun _ => rfl)

theorem risG_b (l : List Int) : ∀ (m i : Nat) (r : Int), r ≤ risG l m i r ∧ risG l m i r ≤ r + m
  | 0, _, r => by simp [risG]
  | m + 1, i, r => by
    rw [risG]
    split
    · have := risG_b l m (i + 1) (r + 1); omega
    · have := risG_b l m (i + 1) r; omega
def risN (l : List Int) : Nat := (ris l).toNat
theorem risN_b {l : List Int} (h : 1 ≤ l.length) : ris l = (risN l : Int) ∧ 1 ≤ risN l ∧ risN l ≤ l.length := by
  have := risG_b l (l.length - 1) 0 1
  unfold risN ris
  omega
theorem isO_b {l : List Int} (h : isO l = true) : 1 ≤ l.length ∧ l.length ≤ 12 := by
  simp only [isO, Bool.and_eq_true, inR, decide_eq_true_eq] at h
  omega
/-- What RiffleChance answers. -/
def valRif (l : List Int) (r : Int) : AV := if (isO l && inR r 0 5) = true then frA (chance l.length (risN l) r.toNat) else frF
set_option maxHeartbeats 4000000 in
theorem k35f1 (n : Nat) (cells : List AV) (r : Int) (c1 : ∀ σ, callI TT 96 [.lst n cells] σ = some (.bool false, σ)) :
    ∃ σ', exI TT (FI.of Try.f35 (TT.an 35)) [.code (Try.f35.body.getD .skip)] (paramsE 0 [.lst n cells, .int .i64 r]) ⟨[], 0⟩ = some (.tup [.agg [.int .i64 0, .int .i64 0], .bool false], σ') := by
  refine ex1 ?_
  rw [fi35]
  simp only [Try.f35, Option.getD]
  simp (maxSteps := 1000000) (disch := omega) [cellsAt, getCells, takeN, dropN, fieldAddrA, allOne, AV.one, n_push, storeCellsA, putN, overN, St.push, St.get, St.set, hget, hset, blt_dec, buildA, sizesOf, fillA, putCells, List.take_succ_cons, List.take_zero, List.drop_succ_cons, List.drop_zero, List.nil_append, List.cons_append, List.length_cons, List.length_nil, eqvs_dgs, convA, c1]
set_option maxHeartbeats 4000000 in
theorem k35f2 (n : Nat) (cells : List AV) (r : Int) (c1 : ∀ σ, callI TT 96 [.lst n cells] σ = some (.bool true, σ)) (c2 : ∀ σ, callI TT 63 [.int .i64 r, .int .i64 0, .int .i64 5] σ = some (.bool false, σ)) :
    ∃ σ', exI TT (FI.of Try.f35 (TT.an 35)) [.code (Try.f35.body.getD .skip)] (paramsE 0 [.lst n cells, .int .i64 r]) ⟨[], 0⟩ = some (.tup [.agg [.int .i64 0, .int .i64 0], .bool false], σ') := by
  refine ex1 ?_
  rw [fi35]
  simp only [Try.f35, Option.getD]
  simp (maxSteps := 1000000) (disch := omega) [cellsAt, getCells, takeN, dropN, fieldAddrA, allOne, AV.one, n_push, storeCellsA, putN, overN, St.push, St.get, St.set, hget, hset, blt_dec, buildA, sizesOf, fillA, putCells, List.take_succ_cons, List.take_zero, List.drop_succ_cons, List.drop_zero, List.nil_append, List.cons_append, List.length_cons, List.length_nil, eqvs_dgs, convA, c1, c2]
theorem k35f (n : Nat) (cells : List AV) (r : Int) (b1 b2 : Bool) (c1 : ∀ σ, callI TT 96 [.lst n cells] σ = some (.bool b1, σ)) (c2 : ∀ σ, callI TT 63 [.int .i64 r, .int .i64 0, .int .i64 5] σ = some (.bool b2, σ)) (h0 : (b1 && b2) = false) : ∃ σ', exI TT (FI.of Try.f35 (TT.an 35)) [.code (Try.f35.body.getD .skip)] (paramsE 0 [.lst n cells, .int .i64 r]) ⟨[], 0⟩ = some (.tup [.agg [.int .i64 0, .int .i64 0], .bool false], σ') := by
  cases b1 with
  | false => exact k35f1 n cells r c1
  | true => cases b2 with
    | false => exact k35f2 n cells r c1 c2
    | true => cases h0
set_option maxHeartbeats 4000000 in
theorem k35 (n : Nat) (cells : List AV) (r : Int) (s : Int) (x : List AV) (a b : Int) (c : Bool) (c1 : ∀ σ, callI TT 96 [.lst n cells] σ = some (.bool true, σ)) (c2 : ∀ σ, callI TT 63 [.int .i64 r, .int .i64 0, .int .i64 5] σ = some (.bool true, σ)) (c3 : ∀ σ, callI TT 98 [.lst n cells] σ = some (.int .i64 n, σ)) (c4 : ∀ σ, callI TT 99 [.lst n cells] σ = some (.int .i64 s, σ)) (c5 : ∀ σ, callI TT 97 [.int .i64 n, .int .i64 s, .int .i64 r] σ = some (.agg x, σ)) (c6 : ∀ σ, callI TT 80 [.agg x] σ = some (.tup [.agg [.int .i64 a, .int .i64 b], .bool c], σ)) :
    ∃ σ', exI TT (FI.of Try.f35 (TT.an 35)) [.code (Try.f35.body.getD .skip)] (paramsE 0 [.lst n cells, .int .i64 r]) ⟨[], 0⟩ = some (.tup [.agg [.int .i64 a, .int .i64 b], .bool c], σ') := by
  refine ex1 ?_
  rw [fi35]
  simp only [Try.f35, Option.getD]
  simp (maxSteps := 1000000) (disch := omega) [cellsAt, getCells, takeN, dropN, fieldAddrA, allOne, AV.one, n_push, storeCellsA, putN, overN, St.push, St.get, St.set, hget, hset, blt_dec, buildA, sizesOf, fillA, putCells, List.take_succ_cons, List.take_zero, List.drop_succ_cons, List.drop_zero, List.nil_append, List.cons_append, List.length_cons, List.length_nil, eqvs_dgs, convA, c1, c2, c3, c4, c5, c6]
theorem chance_bd (n s r : Nat) (hn : n ≤ 12) (hs : s ≤ n) (hr : r ≤ 5) : Bd 61 (chance n s r) := by
  obtain ⟨p1, p2⟩ := pow_le5 hr
  have hp : 2 ^ (r * n) ≤ 2 ^ 60 := Nat.pow_le_pow_right (by decide) (rn_le hn hr)
  have hp0 : 0 < 2 ^ (r * n) := Nat.two_pow_pos _
  have hch := ch_le (n := 2 ^ r + n - s) (k := n) (by omega)
  exact low_bd (b := false) (by omega) (Nat.lt_of_le_of_lt hch (by decide)) (Nat.lt_of_le_of_lt hp (by decide))
theorem r35 (l : List Int) (hl : l.length < 3000000) (r : Int) : FnV TT 35 [.lst l.length (ints l), .int .i64 r] (valRif l r) := by
  have c1 := fun σ : St => v96 l l.length rfl hl σ [.lst l.length (ints l)] rfl
  have c2 := fun σ : St => c63 r 0 5 σ
  unfold valRif
  cases h : (isO l && inR r 0 5) with
  | true =>
    simp only [Bool.and_eq_true] at h
    obtain ⟨h1, h2⟩ := h
    obtain ⟨b1, b2⟩ := isO_b h1
    obtain ⟨e1, e2, e3⟩ := risN_b b1
    have hr := inR_iff.1 h2
    rw [h1] at c1
    rw [h2] at c2
    obtain ⟨k, rfl⟩ : ∃ k : Nat, r = k := ⟨r.toNat, by omega⟩
    have c4 := fun σ : St => v99 l l.length rfl b2 b1 σ [.lst l.length (ints l)] rfl
    rw [e1] at c4
    have c5 := r97 l.length (risN l) k b2 e3 (by omega)
    have c6 := r80 (chance_bd l.length (risN l) k b2 e3 (by omega)) (by decide)
    rw [if_pos rfl, Int.toNat_natCast]
    generalize chance l.length (risN l) k = d at *
    have f1 := frA_frz d
    have f2 := frA_scal d
    obtain ⟨a, b, c, hR⟩ := frA_is d
    rw [hR] at c6 f1 f2 ⊢
    exact FnV.mk fn35 rfl md35 (k35 _ _ _ _ _ a b c c1 c2 (fun σ => v98 l l.length σ [.lst l.length (ints l)] rfl) c4 (fun σ => c5.pure σ rfl rfl) (fun σ => c6 σ _ rfl)) f1 f2
  | false => exact FnV.mk fn35 rfl md35 (k35f _ _ _ _ _ c1 c2 h) (fun _ => rfl) rfl

/-- A box with some cells. -/
def Bx (σ : St) (b : Nat) (vs : List AV) : Prop := (∃ n, σ.get b = some ⟨vs, n, false⟩) ∧ b < σ.n
theorem Bx.rd {σ : St} {b n : Nat} {vs : List AV} (h : Bx σ b vs) (hn : vs.length = n) : cellsAt σ (.ptr b 0) n = some vs := by
  obtain ⟨⟨m, h⟩, _⟩ := h
  simp only [cellsAt, h, getCells_eq]
  rw [if_pos (by omega), List.drop_zero, List.take_of_length_le (by omega)]
theorem Bx.st {σ : St} {b : Nat} {vs ws : List AV} (h : Bx σ b vs) (hl : ws.length = vs.length) (ho : allOne ws = true) : ∃ σ', storeCellsA σ b 0 ws = some σ' ∧ Bx σ' b ws ∧ But b σ σ' := by
  obtain ⟨⟨m, hg⟩, hlt⟩ := h
  refine ⟨σ.set b ⟨ws, m, false⟩, ?_, ⟨⟨m, get_set_eq hg⟩, hlt⟩, rfl, fun c hc => get_set_ne (fun e => hc e.symm)⟩
  rw [storeCellsA_eq, hg]
  simp only [putCells]
  rw [if_pos ⟨by omega, ho⟩, List.take_zero, List.nil_append, Nat.zero_add, List.drop_of_length_le (by omega), List.append_nil]
theorem Bx.old {σ σ' : St} {b : Nat} {vs : List AV} (h : Bx σ b vs) (k : Old σ σ') : Bx σ' b vs := by
  obtain ⟨⟨m, hg⟩, hlt⟩ := h
  exact ⟨⟨m, by rw [k.2 b hlt]; exact hg⟩, Nat.lt_of_lt_of_le hlt k.1⟩
theorem Bx.but {σ σ' : St} {b c : Nat} {vs : List AV} (h : Bx σ c vs) (hc : c ≠ b) (k : But b σ σ') : Bx σ' c vs := by
  obtain ⟨⟨m, hg⟩, hlt⟩ := h
  exact ⟨⟨m, by rw [k.2 c hc]; exact hg⟩, by rw [k.1]; exact hlt⟩
theorem Bx.push {σ : St} {vs : List AV} {m : Nat} : Bx (σ.push ⟨vs, m, false⟩) σ.n vs := ⟨⟨m, get_push_same⟩, Nat.lt_succ_self _⟩
theorem Bx.lt {σ : St} {b : Nat} {vs : List AV} (h : Bx σ b vs) : b < σ.n := h.2

def RC (q : Rat) : List AV := [.bool (ng q), NA (nm q), NA q.den]
theorem RC_one (q : Rat) : allOne (RC q) = true := rfl
theorem RC_eqv (q : Rat) : eqvs (RC q) (RC q) = true := by simp [RC, eqvs, AV.eqv, NA, eqvs_dgs]

/-- A variable of a loop: a new box. -/
theorem new_box {σ : St} {z x : List AV} {m : Nat} (hz : z.length = x.length) (hx : allOne x = true) : ∃ σ2, storeCellsA (σ.push ⟨z, m, false⟩) σ.n 0 x = some σ2 ∧ Bx σ2 σ.n x ∧ Old σ σ2 ∧ σ2.n = σ.n + 1 := by
  have h1 : Bx (σ.push ⟨z, m, false⟩) σ.n z := Bx.push
  obtain ⟨σ2, a1, a2, a3⟩ := h1.st (ws := x) hz.symm hx
  exact ⟨σ2, a1, a2, ⟨by rw [a3.1]; exact Nat.le_succ _, fun c hc => by rw [a3.2 c (by omega)]; exact get_push_lt hc⟩, a3.1⟩

/-- Sums. -/
def sumI (f : Nat → Rat) : Nat → Rat
  | 0 => 0
  | n + 1 => sumI f n + f n

def frzO (r : Option (AV × St)) : Option AV := match r with
  | some (v, σ) => frzV σ frzDepth v
  | none => none
theorem FnF_exec {T : Tab} {f : FuncId} {F : Func} {c : Code} {args' : List AV} {v : AV} (n : Nat) (hF : T.fn f = some F) (hB : F.body = some c) (hm : (T.an f).mode = 1) (h : frzO (exec T n (FI.of F (T.an f)) [.code c] (paramsE 0 args') ⟨[], 0⟩) = some v) : FnF T f args' v := by
  cases hx : exec T n (FI.of F (T.an f)) [.code c] (paramsE 0 args') ⟨[], 0⟩ with
  | none => rw [hx] at h; cases h
  | some r =>
    obtain ⟨w, σ1⟩ := r
    rw [hx] at h
    exact FnF.mk hF hB hm ⟨σ1, w, exI_iff.2 ⟨n, hx⟩, h⟩
/-- How many orders of n things have how many rising sequences. -/
def eul : Nat → List Int
  | 1 => [0, 1, 0, 0, 0, 0, 0, 0, 0, 0, 0, 0, 0]
  | 2 => [0, 1, 1, 0, 0, 0, 0, 0, 0, 0, 0, 0, 0]
  | 3 => [0, 1, 4, 1, 0, 0, 0, 0, 0, 0, 0, 0, 0]
  | 4 => [0, 1, 11, 11, 1, 0, 0, 0, 0, 0, 0, 0, 0]
  | 5 => [0, 1, 26, 66, 26, 1, 0, 0, 0, 0, 0, 0, 0]
  | 6 => [0, 1, 57, 302, 302, 57, 1, 0, 0, 0, 0, 0, 0]
  | 7 => [0, 1, 120, 1191, 2416, 1191, 120, 1, 0, 0, 0, 0, 0]
  | 8 => [0, 1, 247, 4293, 15619, 15619, 4293, 247, 1, 0, 0, 0, 0]
  | _ => []
def facN : Nat → Nat
  | 1 => 1
  | 2 => 2
  | 3 => 6
  | 4 => 24
  | 5 => 120
  | 6 => 720
  | 7 => 5040
  | 8 => 40320
  | _ => 1
theorem n8 {P : Nat → Prop} (h1 : P 1) (h2 : P 2) (h3 : P 3) (h4 : P 4) (h5 : P 5) (h6 : P 6) (h7 : P 7) (h8 : P 8) : ∀ n, 1 ≤ n → n ≤ 8 → P n := by
  intro n h h'
  have : n = 1 ∨ n = 2 ∨ n = 3 ∨ n = 4 ∨ n = 5 ∨ n = 6 ∨ n = 7 ∨ n = 8 := by omega
  rcases this with rfl | rfl | rfl | rfl | rfl | rfl | rfl | rfl <;> assumption

theorem x108_1 : FnF TT 108 [.int .i64 1] (.lst 13 (ints (eul 1))) := FnF_exec 5000 fn108 rfl md108 (by kernel_rfl)
theorem x107_1 : FnV TT 107 [.int .i64 1] (.int .i64 (facN 1)) := FnV.mk fn107 rfl md107 (exI_of_exec (n := 1000) (by kernel_rfl)) (fun _ => rfl) rfl
theorem x108_2 : FnF TT 108 [.int .i64 2] (.lst 13 (ints (eul 2))) := FnF_exec 5000 fn108 rfl md108 (by kernel_rfl)
theorem x107_2 : FnV TT 107 [.int .i64 2] (.int .i64 (facN 2)) := FnV.mk fn107 rfl md107 (exI_of_exec (n := 1000) (by kernel_rfl)) (fun _ => rfl) rfl
theorem x108_3 : FnF TT 108 [.int .i64 3] (.lst 13 (ints (eul 3))) := FnF_exec 5000 fn108 rfl md108 (by kernel_rfl)
theorem x107_3 : FnV TT 107 [.int .i64 3] (.int .i64 (facN 3)) := FnV.mk fn107 rfl md107 (exI_of_exec (n := 1000) (by kernel_rfl)) (fun _ => rfl) rfl
theorem x108_4 : FnF TT 108 [.int .i64 4] (.lst 13 (ints (eul 4))) := FnF_exec 5000 fn108 rfl md108 (by kernel_rfl)
theorem x107_4 : FnV TT 107 [.int .i64 4] (.int .i64 (facN 4)) := FnV.mk fn107 rfl md107 (exI_of_exec (n := 1000) (by kernel_rfl)) (fun _ => rfl) rfl
theorem x108_5 : FnF TT 108 [.int .i64 5] (.lst 13 (ints (eul 5))) := FnF_exec 5000 fn108 rfl md108 (by kernel_rfl)
theorem x107_5 : FnV TT 107 [.int .i64 5] (.int .i64 (facN 5)) := FnV.mk fn107 rfl md107 (exI_of_exec (n := 1000) (by kernel_rfl)) (fun _ => rfl) rfl
theorem x108_6 : FnF TT 108 [.int .i64 6] (.lst 13 (ints (eul 6))) := FnF_exec 5000 fn108 rfl md108 (by kernel_rfl)
theorem x107_6 : FnV TT 107 [.int .i64 6] (.int .i64 (facN 6)) := FnV.mk fn107 rfl md107 (exI_of_exec (n := 1000) (by kernel_rfl)) (fun _ => rfl) rfl
theorem x108_7 : FnF TT 108 [.int .i64 7] (.lst 13 (ints (eul 7))) := FnF_exec 5000 fn108 rfl md108 (by kernel_rfl)
theorem x107_7 : FnV TT 107 [.int .i64 7] (.int .i64 (facN 7)) := FnV.mk fn107 rfl md107 (exI_of_exec (n := 1000) (by kernel_rfl)) (fun _ => rfl) rfl
theorem x108_8 : FnF TT 108 [.int .i64 8] (.lst 13 (ints (eul 8))) := FnF_exec 5000 fn108 rfl md108 (by kernel_rfl)
theorem x107_8 : FnV TT 107 [.int .i64 8] (.int .i64 (facN 8)) := FnV.mk fn107 rfl md107 (exI_of_exec (n := 1000) (by kernel_rfl)) (fun _ => rfl) rfl
theorem r108 : ∀ n : Nat, 1 ≤ n → n ≤ 8 → FnF TT 108 [.int .i64 n] (.lst 13 (ints (eul n))) := n8 x108_1 x108_2 x108_3 x108_4 x108_5 x108_6 x108_7 x108_8
theorem r107 : ∀ n : Nat, 1 ≤ n → n ≤ 8 → FnV TT 107 [.int .i64 n] (.int .i64 (facN n)) := n8 x107_1 x107_2 x107_3 x107_4 x107_5 x107_6 x107_7 x107_8
def evenQ (n : Nat) : Rat := mkRat 1 (facN n)
def rdT (n r k : Nat) : Rat := if 0 < at0 (eul n) k then (chance n k r - evenQ n).abs * mkRat (at0 (eul n) k) 1 else 0
def rdQ (n r : Nat) : Rat := sumI (rdT n r) 13 / 2
def spT (n r k : Nat) : Rat := (chance n (k + 1) r - evenQ n).abs * mkRat (at0 (eul n) (k + 1)) 2
/-- What the two ways of reckoning need at all arguments. -/
def chkRD (n r : Nat) : Bool := ((List.range n).all fun k => fits (chance n (k + 1) r - evenQ n) && (fits (spT n r k) && (fits (sumI (spT n r) (k + 1)) && (fits (mkRat (at0 (eul n) (k + 1)) 2) && decide (0 ≤ at0 (eul n) (k + 1) ∧ at0 (eul n) (k + 1) ≤ 100000))))) && (fits (evenQ n) && (decide (sumI (spT n r) n = rdQ n r) && (decide ((eul n).length = 13) && (((List.range 13).all fun k => (decide (0 < at0 (eul n) k) == (decide (1 ≤ k) && decide (k ≤ n))) && decide (at0 (eul n) k ≤ 100000 ∧ 0 ≤ at0 (eul n) k)) && decide (1 ≤ facN n ∧ facN n ≤ 40320)))))

theorem chk_1 : ((List.range 6).all fun r => chkRD 1 r) = true := by decide +kernel
theorem chk_2 : ((List.range 6).all fun r => chkRD 2 r) = true := by decide +kernel
theorem chk_3 : ((List.range 6).all fun r => chkRD 3 r) = true := by decide +kernel
theorem chk_4 : ((List.range 6).all fun r => chkRD 4 r) = true := by decide +kernel
theorem chk_5 : ((List.range 6).all fun r => chkRD 5 r) = true := by decide +kernel
theorem chk_6 : ((List.range 6).all fun r => chkRD 6 r) = true := by decide +kernel
theorem chk_7 : ((List.range 6).all fun r => chkRD 7 r) = true := by decide +kernel
theorem chk_8 : ((List.range 6).all fun r => chkRD 8 r) = true := by decide +kernel
theorem chk_all (n r : Nat) (h1 : 1 ≤ n) (h2 : n ≤ 8) (hr : r ≤ 5) : chkRD n r = true := by
  have := n8 (P := fun n => ((List.range 6).all fun r => chkRD n r) = true) chk_1 chk_2 chk_3 chk_4 chk_5 chk_6 chk_7 chk_8 n h1 h2
  rw [List.all_eq_true] at this
  exact this r (List.mem_range.2 (by omega))
structure RD (n r : Nat) : Prop where
  d : ∀ k, k < n → fits (chance n (k + 1) r - evenQ n) = true
  t : ∀ k, k < n → fits (spT n r k) = true
  s : ∀ k, k < n → fits (sumI (spT n r) (k + 1)) = true
  m : ∀ k, k < n → fits (mkRat (at0 (eul n) (k + 1)) 2) = true
  b : ∀ k, k < n → 0 ≤ at0 (eul n) (k + 1) ∧ at0 (eul n) (k + 1) ≤ 100000
  e : fits (evenQ n) = true
  q : sumI (spT n r) n = rdQ n r
  l : (eul n).length = 13
  p : ∀ k, k < 13 → (0 < at0 (eul n) k ↔ (1 ≤ k ∧ k ≤ n))
  c : ∀ k, k < 13 → at0 (eul n) k ≤ 100000 ∧ 0 ≤ at0 (eul n) k
  f : 1 ≤ facN n ∧ facN n ≤ 40320
theorem rd (n r : Nat) (h1 : 1 ≤ n) (h2 : n ≤ 8) (hr : r ≤ 5) : RD n r := by
  have h := chk_all n r h1 h2 hr
  simp only [chkRD, Bool.and_eq_true, List.all_eq_true, List.mem_range, decide_eq_true_eq, beq_iff_eq] at h
  obtain ⟨a, b, c, d, e, f⟩ := h
  refine ⟨fun k hk => (a k hk).1, fun k hk => (a k hk).2.1, fun k hk => (a k hk).2.2.1, fun k hk => (a k hk).2.2.2.1, fun k hk => (a k hk).2.2.2.2, b, c, d, fun k hk => ?_, fun k hk => (e k hk).2, f⟩
  have := (e k hk).1
  rw [← Bool.decide_and, decide_eq_decide] at this
  exact this
theorem sumI_bd {f : Nat → Rat} {k : Nat} : ∀ n, (∀ i, i < n → Bd k (f i)) → Bd (2 + n * (k + 1)) (sumI f n)
  | 0, _ => (show Bd 2 (0 : Rat) from ⟨by decide +kernel, by decide +kernel⟩).mono (by omega)
  | n + 1, h => by
    rw [sumI]
    exact ((sumI_bd n fun i hi => h i (by omega)).add (h n (by omega))).mono (by rw [Nat.add_mul]; omega)
def valRD (n r : Int) : AV := if (inR n 1 8 && inR r 0 5) = true then frA (rdQ n.toNat r.toNat) else frF
set_option maxHeartbeats 4000000 in
theorem k38f1 (n r : Int) (c1 : ∀ σ, callI TT 63 [.int .i64 n, .int .i64 1, .int .i64 8] σ = some (.bool false, σ)) :
    ∃ σ', exI TT (FI.of Try.f38 (TT.an 38)) [.code (Try.f38.body.getD .skip)] (paramsE 0 [.int .i64 n, .int .i64 r]) ⟨[], 0⟩ = some (.tup [.agg [.int .i64 0, .int .i64 0], .bool false], σ') := by
  refine ex1 ?_
  rw [fi38]
  simp only [Try.f38, Option.getD]
  simp (maxSteps := 1000000) (disch := omega) [cellsAt, getCells, takeN, dropN, fieldAddrA, allOne, AV.one, n_push, storeCellsA, putN, overN, St.push, St.get, St.set, hget, hset, blt_dec, buildA, sizesOf, fillA, putCells, List.take_succ_cons, List.take_zero, List.drop_succ_cons, List.drop_zero, List.nil_append, List.cons_append, List.length_cons, List.length_nil, eqvs_dgs, convA, c1]
set_option maxHeartbeats 4000000 in
theorem k38f2 (n r : Int) (c1 : ∀ σ, callI TT 63 [.int .i64 n, .int .i64 1, .int .i64 8] σ = some (.bool true, σ)) (c2 : ∀ σ, callI TT 63 [.int .i64 r, .int .i64 0, .int .i64 5] σ = some (.bool false, σ)) :
    ∃ σ', exI TT (FI.of Try.f38 (TT.an 38)) [.code (Try.f38.body.getD .skip)] (paramsE 0 [.int .i64 n, .int .i64 r]) ⟨[], 0⟩ = some (.tup [.agg [.int .i64 0, .int .i64 0], .bool false], σ') := by
  refine ex1 ?_
  rw [fi38]
  simp only [Try.f38, Option.getD]
  simp (maxSteps := 1000000) (disch := omega) [cellsAt, getCells, takeN, dropN, fieldAddrA, allOne, AV.one, n_push, storeCellsA, putN, overN, St.push, St.get, St.set, hget, hset, blt_dec, buildA, sizesOf, fillA, putCells, List.take_succ_cons, List.take_zero, List.drop_succ_cons, List.drop_zero, List.nil_append, List.cons_append, List.length_cons, List.length_nil, eqvs_dgs, convA, c1, c2]
theorem k38f (n r : Int) (b1 b2 : Bool) (c1 : ∀ σ, callI TT 63 [.int .i64 n, .int .i64 1, .int .i64 8] σ = some (.bool b1, σ)) (c2 : ∀ σ, callI TT 63 [.int .i64 r, .int .i64 0, .int .i64 5] σ = some (.bool b2, σ)) (h0 : (b1 && b2) = false) : ∃ σ', exI TT (FI.of Try.f38 (TT.an 38)) [.code (Try.f38.body.getD .skip)] (paramsE 0 [.int .i64 n, .int .i64 r]) ⟨[], 0⟩ = some (.tup [.agg [.int .i64 0, .int .i64 0], .bool false], σ') := by
  cases b1 with
  | false => exact k38f1 n r c1
  | true => cases b2 with
    | false => exact k38f2 n r c1 c2
    | true => cases h0
noncomputable def b38 : Code := Try.f38.body.getD .skip
noncomputable def B38_0 : Code := (bodyC (bodyC (sndC (fstC (sndC (sndC (sndC b38)))))))
noncomputable def K38_0 : List It := .lp B38_0 :: .blk 0 :: .code (sndC (sndC (sndC (sndC b38)))) :: []
theorem xl38_0 {fi : FI} {env : Env} {σ : St} : exI TT fi K38_0 env σ = exI TT fi (.code B38_0 :: K38_0) env σ := by unfold K38_0; exact xI_lp
noncomputable def R38_0_0 : List It := .code (sndC (sndC (sndC (sndC b38)))) :: []
theorem eK38_0_0 : exitA 0 K38_0 = some R38_0_0 := rfl
set_option maxHeartbeats 4000000 in
theorem s38z (n r : Int) (m i : Nat) (cells : List AV) (y : Int) (σ : St) (hi : i < m) (l1 : cellsAt σ (.lp cells i) 1 = some [.int .i64 y]) (hy : y ≤ 0) (hw : wrapA .i64 ((i : Int) + 1) = (i : Int) + 1) :
    exI TT (FI.of Try.f38 (TT.an 38)) K38_0 [(0, .int .i64 n), (1, .int .i64 r), (4, .ptr 0 0), (6, .ptr 1 0), (7, .ptr 2 0), (24, .lst m cells), (25, .int .i64 m), (26, .int .i64 i)] σ = exI TT (FI.of Try.f38 (TT.an 38)) K38_0 [(0, .int .i64 n), (1, .int .i64 r), (4, .ptr 0 0), (6, .ptr 1 0), (7, .ptr 2 0), (24, .lst m cells), (25, .int .i64 m), (26, .int .i64 ((i : Int) + 1))] σ := by
  rw [fi38]
  conv => lhs; rw [xl38_0]
  simp only [B38_0, b38, Try.f38, Option.getD, fstC, sndC, bodyC, thnC, elsC]
  simp (maxSteps := 1000000) (disch := omega) [eK38_0_0, getCells, takeN, dropN, fieldAddrA, allOne, AV.one, n_push, putN, overN, blt_dec, buildA, sizesOf, fillA, putCells, List.take_succ_cons, List.take_zero, List.drop_succ_cons, List.drop_zero, List.nil_append, List.cons_append, List.length_cons, List.length_nil, eqvs_dgs, convA, hi, l1, hy, hw]
set_option maxHeartbeats 4000000 in
theorem s38p (n r : Int) (m i : Nat) (cells s c e d a w t u : List AV) (y : Int) (σ σ1 : St) (hi : i < m) (l1 : cellsAt σ (.lp cells i) 1 = some [.int .i64 y]) (hy : 0 < y) (l6 : cellsAt σ (.ptr 1 0) 3 = some s) (l7 : cellsAt σ (.ptr 2 0) 3 = some e) (hes : eqvs s s = true) (hee : eqvs e e = true) (hec : eqvs c c = true) (hea : eqvs a a = true) (hei : wrapA .i64 (i : Int) = (i : Int)) (c1 : ∀ σ, callI TT 97 [.int .i64 n, .int .i64 i, .int .i64 r] σ = some (.agg c, σ)) (c2 : ∀ σ, callI TT 109 [.agg c, .agg e] σ = some (.agg d, σ)) (c3 : ∀ σ, callI TT 110 [.agg d] σ = some (.agg a, σ)) (c4 : ∀ σ, callI TT 84 [.int .i64 y] σ = some (.agg w, σ)) (c5 : ∀ σ, callI TT 86 [.agg a, .agg w] σ = some (.agg t, σ)) (c6 : ∀ σ, callI TT 85 [.agg s, .agg t] σ = some (.agg u, σ)) (hu : u.length = 3) (s1 : storeCellsA σ 1 0 u = some σ1) (hw : wrapA .i64 ((i : Int) + 1) = (i : Int) + 1) :
    exI TT (FI.of Try.f38 (TT.an 38)) K38_0 [(0, .int .i64 n), (1, .int .i64 r), (4, .ptr 0 0), (6, .ptr 1 0), (7, .ptr 2 0), (24, .lst m cells), (25, .int .i64 m), (26, .int .i64 i)] σ = exI TT (FI.of Try.f38 (TT.an 38)) K38_0 [(0, .int .i64 n), (1, .int .i64 r), (4, .ptr 0 0), (6, .ptr 1 0), (7, .ptr 2 0), (24, .lst m cells), (25, .int .i64 m), (26, .int .i64 ((i : Int) + 1))] σ1 := by
  rw [fi38]
  conv => lhs; rw [xl38_0]
  simp only [B38_0, b38, Try.f38, Option.getD, fstC, sndC, bodyC, thnC, elsC]
  simp (maxSteps := 1000000) (disch := omega) [eK38_0_0, getCells, takeN, dropN, fieldAddrA, allOne, AV.one, n_push, putN, overN, blt_dec, buildA, sizesOf, fillA, putCells, List.take_succ_cons, List.take_zero, List.drop_succ_cons, List.drop_zero, List.nil_append, List.cons_append, List.length_cons, List.length_nil, eqvs_dgs, convA, hi, l1, hy, l6, l7, hes, hee, hec, hea, hei, c1, c2, c3, c4, c5, c6, hu, s1, hw]
set_option maxHeartbeats 4000000 in
theorem e38 (n r : Int) (m : Nat) (cells s o t : List AV) (a_ b_ : Int) (c_ : Bool) (σ σ1 : St) (l6 : cellsAt σ (.ptr 1 0) 3 = some s) (hes : eqvs s s = true) (c1 : ∀ σ, callI TT 84 [.int .i64 2] σ = some (.agg o, σ)) (c2 : ∀ σ, callI TT 111 [.agg s, .agg o] σ = some (.agg t, σ)) (c3 : ∀ σ, callI TT 80 [.agg t] σ = some (.tup [.agg [.int .i64 a_, .int .i64 b_], .bool c_], σ)) (s1 : storeCellsA σ 0 0 [.int .i64 a_, .int .i64 b_] = some σ1) (l4 : cellsAt σ1 (.ptr 0 0) 2 = some [.int .i64 a_, .int .i64 b_]) :
    exI TT (FI.of Try.f38 (TT.an 38)) K38_0 [(0, .int .i64 n), (1, .int .i64 r), (4, .ptr 0 0), (6, .ptr 1 0), (7, .ptr 2 0), (24, .lst m cells), (25, .int .i64 m), (26, .int .i64 m)] σ = some (.tup [.agg [.int .i64 a_, .int .i64 b_], .bool c_], σ1) := by
  rw [fi38]
  conv => lhs; rw [xl38_0]
  simp only [B38_0, b38, Try.f38, Option.getD, fstC, sndC, bodyC, thnC, elsC]
  simp (maxSteps := 1000000) (disch := omega) [eK38_0_0, getCells, takeN, dropN, fieldAddrA, allOne, AV.one, n_push, putN, overN, blt_dec, buildA, sizesOf, fillA, putCells, List.take_succ_cons, List.take_zero, List.drop_succ_cons, List.drop_zero, List.nil_append, List.cons_append, List.length_cons, List.length_nil, eqvs_dgs, convA, l6, hes, c1, c2, c3, s1, l4]
  simp only [R38_0_0, b38, Try.f38, Option.getD, fstC, sndC, bodyC, thnC, elsC]
  simp (maxSteps := 1000000) (disch := omega) [eK38_0_0, getCells, takeN, dropN, fieldAddrA, allOne, AV.one, n_push, putN, overN, blt_dec, buildA, sizesOf, fillA, putCells, List.take_succ_cons, List.take_zero, List.drop_succ_cons, List.drop_zero, List.nil_append, List.cons_append, List.length_cons, List.length_nil, eqvs_dgs, convA, l6, hes, c1, c2, c3, s1, l4]
set_option maxHeartbeats 4000000 in
theorem b38e (n r : Int) (m : Nat) (cells o e : List AV) (fc : Int) (σ0 σ1 σ2 σ3 σ4 : St) (h1 : (⟨[], 0⟩ : St).push ⟨[.int .i64 0, .int .i64 0], 2, false⟩ = σ0) (hn0 : σ0.n = 1) (c1 : ∀ σ, callI TT 63 [.int .i64 n, .int .i64 1, .int .i64 8] σ = some (.bool true, σ)) (c2 : ∀ σ, callI TT 63 [.int .i64 r, .int .i64 0, .int .i64 5] σ = some (.bool true, σ)) (c3 : ∀ σ, callI TT 84 [.int .i64 0] σ = some (.agg o, σ)) (c4 : ∀ σ, callI TT 107 [.int .i64 n] σ = some (.int .i64 fc, σ)) (c5 : ∀ σ, callI TT 106 [.int .i64 1, .int .i64 fc] σ = some (.agg e, σ)) (h2 : σ0.push ⟨[.bool false, .nilS, .nilS], 3, false⟩ = σ1) (hn1 : σ1.n = 2) (h3 : σ1.push ⟨[.bool false, .nilS, .nilS], 3, false⟩ = σ2) (ho : o.length = 3) (he : e.length = 3) (s1 : storeCellsA σ2 1 0 o = some σ3) (s2 : storeCellsA σ3 2 0 e = some σ4) (c6 : ∀ σ, callI TT 108 [.int .i64 n] σ = some (.lst m cells, σ)) :
    exI TT (FI.of Try.f38 (TT.an 38)) [.code b38] (paramsE 0 [.int .i64 n, .int .i64 r]) ⟨[], 0⟩ = exI TT (FI.of Try.f38 (TT.an 38)) K38_0 [(0, .int .i64 n), (1, .int .i64 r), (4, .ptr 0 0), (6, .ptr 1 0), (7, .ptr 2 0), (24, .lst m cells), (25, .int .i64 m), (26, .int .i64 0)] σ4 := by
  rw [fi38]
  simp only [b38, Try.f38, Option.getD, fstC, sndC, bodyC, thnC, elsC]
  simp (maxSteps := 1000000) (disch := omega) [eK38_0_0, getCells, takeN, dropN, fieldAddrA, allOne, AV.one, n_push, putN, overN, blt_dec, buildA, sizesOf, fillA, putCells, List.take_succ_cons, List.take_zero, List.drop_succ_cons, List.drop_zero, List.nil_append, List.cons_append, List.length_cons, List.length_nil, eqvs_dgs, convA, h1, hn0, c1, c2, c3, c4, c5, h2, hn1, h3, ho, he, s1, s2, c6]
  rfl
theorem evenQ_bd (n : Nat) (h : 1 ≤ facN n ∧ facN n ≤ 40320) : Bd 60 (evenQ n) := by
  have := low_bd (k := 60) (b := false) (n := 1) (d := facN n) (by omega) (by decide) (Nat.lt_of_le_of_lt h.2 (by decide))
  exact this
theorem rdT_bd {n r k : Nat} (h : RD n r) (hn : n ≤ 8) (hr : r ≤ 5) (hk : k < 13) : Bd 200 (rdT n r k) := by
  unfold rdT
  split
  · rename_i hy
    obtain ⟨k1, k2⟩ := (h.p k hk).1 hy
    obtain ⟨c1, c2⟩ := h.c k hk
    obtain ⟨z, hz⟩ : ∃ z : Nat, at0 (eul n) k = z := ⟨(at0 (eul n) k).toNat, by omega⟩
    rw [hz] at c1 ⊢
    have b1 := ((chance_bd n k r (by omega) k2 hr).sub (evenQ_bd n h.f)).abs
    have b2 : Bd 60 (mkRat (z : Int) 1) := low_bd (b := false) (n := z) (d := 1) (by decide) (Nat.lt_of_le_of_lt (show z ≤ 100000 by omega) (by decide)) (by decide)
    exact (b1.mul b2).mono (by decide)
  · exact (show Bd 2 (0 : Rat) from ⟨by decide +kernel, by decide +kernel⟩).mono (by decide)
theorem l38 (n r : Nat) (h : RD n r) (hn : n ≤ 8) (hr : r ≤ 5) : ∀ (m i : Nat) (σ : St), i + m = 13 → Bx σ 1 (RC (sumI (rdT n r) i)) → Bx σ 2 (RC (evenQ n)) → (∃ z, Bx σ 0 z ∧ z.length = 2) →
    ∃ σ', exI TT (FI.of Try.f38 (TT.an 38)) K38_0 [(0, .int .i64 n), (1, .int .i64 r), (4, .ptr 0 0), (6, .ptr 1 0), (7, .ptr 2 0), (24, .lst 13 (ints (eul n))), (25, .int .i64 13), (26, .int .i64 i)] σ = some (frA (rdQ n r), σ') := by
  intro m
  induction m with
  | zero =>
    intro i σ hi hb he hz
    obtain rfl : i = 13 := by omega
    have bs := sumI_bd (f := rdT n r) (k := 200) 13 (fun i hi => rdT_bd h hn hr hi)
    have b2 : Bd 60 (mkRat 2 1) := ⟨by decide, by decide⟩
    have cv := r111 bs (b2.mono (by decide)) (by decide) (by decide)
    have b3 : Bd 60 ((2 : Rat)⁻¹) := ⟨by decide +kernel, by decide +kernel⟩
    have bq : Bd 4000 (rdQ n r) := by
      rw [rdQ, Rat.div_def]; exact (bs.mul b3).mono (by decide)
    have cf := r80 bq (by decide)
    obtain ⟨z, hz, hzl⟩ := hz
    rw [show sumI (rdT n r) 13 / mkRat 2 1 = rdQ n r from rfl] at cv
    generalize rdQ n r = d at *
    obtain ⟨a, b, c, hR⟩ := frA_is d
    rw [hR] at cf ⊢
    obtain ⟨σ1, a1, a2, a3⟩ := hz.st (ws := [.int .i64 a, .int .i64 b]) (by rw [hzl]; rfl) rfl
    exact ⟨σ1, e38 n r 13 _ _ _ _ a b c σ σ1 (hb.rd rfl) (RC_eqv _) (fun σ => (r84 (n := 2) (by decide) (by decide)).pure σ rfl rfl) (fun σ => cv.pure σ rfl rfl) (fun σ => cf σ _ rfl) a1 (a2.rd rfl)⟩
  | succ m ih =>
    intro i σ hi hb he hz
    have hi13 : i < 13 := by omega
    have hi1 : ((i + 1 : Nat) : Int) = (i : Int) + 1 := by omega
    have hw : wrapA .i64 ((i : Int) + 1) = (i : Int) + 1 := wrapA_id (by omega) (by omega)
    have l1 := lp_read (σ := σ) (l := eul n) (i := i) (by rw [h.l]; exact hi13)
    obtain ⟨c1, c2⟩ := h.c i hi13
    by_cases hy : 0 < at0 (eul n) i
    · obtain ⟨k1, k2⟩ := (h.p i hi13).1 hy
      have t1 : rdT n r i = (chance n i r - evenQ n).abs * mkRat (at0 (eul n) i) 1 := if_pos hy
      have bc := chance_bd n i r (by omega) k2 hr
      have be := evenQ_bd n h.f
      have bt := rdT_bd h hn hr hi13
      have bs := sumI_bd (f := rdT n r) (k := 200) i (fun j hj => rdT_bd h hn hr (by omega))
      obtain ⟨z0, hz0⟩ : ∃ z : Nat, at0 (eul n) i = z := ⟨(at0 (eul n) i).toNat, by omega⟩
      have b2 : Bd 60 (mkRat (at0 (eul n) i) 1) := by
        rw [hz0] at c1 ⊢
        exact low_bd (b := false) (n := z0) (d := 1) (by decide) (Nat.lt_of_le_of_lt (show z0 ≤ 100000 by omega) (by decide)) (by decide)
      have cc := r97 n i r (by omega) k2 hr
      have cm := r109 (bc.mono (show 61 ≤ 100 by decide)) (be.mono (show 60 ≤ 100 by decide)) (by decide)
      have ca := r110 (chance n i r - evenQ n)
      have cw := r84 (n := at0 (eul n) i) (by omega) (by omega)
      have ct := r86 ((bc.sub be).abs.mono (show _ ≤ 200 by decide)) (b2.mono (show 60 ≤ 200 by decide)) (by decide)
      rw [← t1] at ct
      have cp := r85 (bs.mono (show _ ≤ 4000 by omega)) (bt.mono (show 200 ≤ 4000 by decide)) (by decide)
      obtain ⟨σ1, a1, a2, a3⟩ := hb.st (ws := RC (sumI (rdT n r) (i + 1))) rfl (RC_one _)
      obtain ⟨z, hz, hzl⟩ := hz
      obtain ⟨σ', k3⟩ := ih (i + 1) σ1 (by omega) a2 (he.but (by decide) a3) ⟨z, hz.but (by decide) a3, hzl⟩
      rw [hi1] at k3
      refine ⟨σ', ?_⟩
      rw [← k3]
      exact s38p n r 13 i _ _ (RC (chance n i r)) _ _ (RC (chance n i r - evenQ n).abs) _ _ _ _ σ σ1 hi13 l1 hy (hb.rd rfl) (he.rd rfl) (RC_eqv _) (RC_eqv _) (RC_eqv _) (RC_eqv _) (wrapA_id (by omega) (by omega)) (fun σ => cc.pure σ rfl rfl) (fun σ => cm.pure σ rfl rfl) (fun σ => ca.pure σ rfl rfl) (fun σ => cw.pure σ rfl rfl) (fun σ => ct.pure σ rfl rfl) (fun σ => cp.pure σ rfl rfl) rfl a1 hw
    · have t0 : rdT n r i = 0 := if_neg hy
      have ts : sumI (rdT n r) (i + 1) = sumI (rdT n r) i := by rw [sumI, t0, Rat.add_zero]
      obtain ⟨σ', k3⟩ := ih (i + 1) σ (by omega) (by rw [ts]; exact hb) he hz
      rw [hi1] at k3
      refine ⟨σ', ?_⟩
      rw [← k3]
      exact s38z n r 13 i _ _ σ hi13 l1 (by omega) hw
theorem r38 (n r : Int) : FnV TT 38 [.int .i64 n, .int .i64 r] (valRD n r) := by
  have c1 := fun σ : St => c63 n 1 8 σ
  have c2 := fun σ : St => c63 r 0 5 σ
  unfold valRD
  cases hh : (inR n 1 8 && inR r 0 5) with
  | true =>
    simp only [Bool.and_eq_true] at hh
    obtain ⟨h1, h2⟩ := hh
    rw [h1] at c1
    rw [h2] at c2
    have e1 := inR_iff.1 h1
    have e2 := inR_iff.1 h2
    obtain ⟨n, rfl⟩ : ∃ k : Nat, n = k := ⟨n.toNat, by omega⟩
    obtain ⟨r, rfl⟩ : ∃ k : Nat, r = k := ⟨r.toNat, by omega⟩
    have h := rd n r (by omega) (by omega) (by omega)
    rw [if_pos rfl, Int.toNat_natCast, Int.toNat_natCast]
    have hx0 : Bx ((⟨[], 0⟩ : St).push ⟨[.int .i64 0, .int .i64 0], 2, false⟩) 0 [.int .i64 0, .int .i64 0] := Bx.push
    have hx1 : Bx (((⟨[], 0⟩ : St).push ⟨[.int .i64 0, .int .i64 0], 2, false⟩).push ⟨[.bool false, .nilS, .nilS], 3, false⟩) 1 [.bool false, .nilS, .nilS] := Bx.push
    have hx2 : Bx ((((⟨[], 0⟩ : St).push ⟨[.int .i64 0, .int .i64 0], 2, false⟩).push ⟨[.bool false, .nilS, .nilS], 3, false⟩).push ⟨[.bool false, .nilS, .nilS], 3, false⟩) 2 [.bool false, .nilS, .nilS] := Bx.push
    obtain ⟨σ3, a1, a2, a3⟩ := (hx1.old (Old.push (x := ⟨[.bool false, .nilS, .nilS], 3, false⟩))).st (ws := RC (mkRat 0 1)) rfl (RC_one _)
    obtain ⟨σ4, b1, b2, b3⟩ := (hx2.but (by decide) a3).st (ws := RC (evenQ n)) rfl (RC_one _)
    obtain ⟨σ', k1⟩ := l38 n r h (by omega) (by omega) 13 0 σ4 rfl (a2.but (by decide) b3) b2 ⟨_, (((hx0.old Old.push).old Old.push).but (by decide) a3).but (by decide) b3, rfl⟩
    have hf := h.f
    have cq := r106 (n := 1) (d := facN n) (by decide) (by decide) (by omega) (by omega)
    exact FnV.mk (c := b38) fn38 rfl md38 ⟨σ', (b38e n r 13 (ints (eul n)) _ _ _ _ _ _ σ3 σ4 rfl rfl c1 c2 (fun σ => (r84 (n := 0) (by decide) (by decide)).pure σ rfl rfl) (fun σ => r107 n (by omega) (by omega) σ _ rfl) (fun σ => cq.pure σ rfl rfl) rfl rfl rfl rfl rfl a1 b1 (fun σ => (r108 n (by omega) (by omega)).pure σ rfl rfl)).trans k1⟩ (frA_frz _) (frA_scal _)
  | false => exact FnV.mk fn38 rfl md38 (k38f _ _ _ _ c1 c2 hh) (fun _ => rfl) rfl

def QC (q : Rat) : List AV := [.int .i64 q.num, .int .i64 q.den]
theorem Bx.rd1 {σ : St} {b : Nat} {x y : AV} (h : Bx σ b [x, y]) : cellsAt σ (.ptr b 0) 1 = some [x] := by
  obtain ⟨⟨m, hg⟩, _⟩ := h
  simp [cellsAt, hg, getCells, dropN, takeN]
theorem mk_self {q : Rat} : mkRat q.num (q.den : Int).toNat = q := by rw [Int.toNat_natCast, Rat.mkRat_self]
theorem add_c {a b : Rat} (ha : fits a = true) (hb : fits b = true) (h : fits (a + b) = true) (σ : St) : callI TT 103 [.agg (QC a), .agg (QC b)] σ = some (.tup [.agg (QC (a + b)), .bool true], σ) := by
  have := v103 (vfr_of ha) (vfr_of hb) σ [.agg (QC a), .agg (QC b)] rfl
  rw [mk_self, mk_self, frA_yes h] at this
  exact this
theorem mul_c {a b : Rat} (ha : fits a = true) (hb : fits b = true) (h : fits (a * b) = true) (σ : St) : callI TT 105 [.agg (QC a), .agg (QC b)] σ = some (.tup [.agg (QC (a * b)), .bool true], σ) := by
  have := v105 (vfr_of ha) (vfr_of hb) σ [.agg (QC a), .agg (QC b)] rfl
  rw [mk_self, mk_self, frA_yes h] at this
  exact this
set_option maxHeartbeats 4000000 in
theorem k128 (x1 x2 y1 y2 t1 t2 : Int) (c1 : ∀ σ, callI TT 170 [.agg [.int .i64 x1, .int .i64 x2]] σ = some (.bool true, σ)) (c2 : ∀ σ, callI TT 170 [.agg [.int .i64 y1, .int .i64 y2]] σ = some (.bool true, σ)) (c3 : ∀ σ, callI TT 103 [.agg [.int .i64 x1, .int .i64 x2], .agg [.int .i64 y1, .int .i64 y2]] σ = some (.tup [.agg [.int .i64 t1, .int .i64 t2], .bool true], σ)) :
    ∃ σ', exI TT (FI.of Try.f128 (TT.an 128)) [.code (Try.f128.body.getD .skip)] (paramsE 0 [.agg [.int .i64 x1, .int .i64 x2], .agg [.int .i64 y1, .int .i64 y2]]) ⟨[], 0⟩ = some (.tup [.agg [.int .i64 t1, .int .i64 t2], .bool true], σ') := by
  refine ex1 ?_
  rw [fi128]
  simp only [Try.f128, Option.getD]
  simp (maxSteps := 1000000) (disch := omega) [cellsAt, getCells, takeN, dropN, fieldAddrA, allOne, AV.one, n_push, storeCellsA, putN, overN, St.push, St.get, St.set, hget, hset, blt_dec, buildA, sizesOf, fillA, putCells, List.take_succ_cons, List.take_zero, List.drop_succ_cons, List.drop_zero, List.nil_append, List.cons_append, List.length_cons, List.length_nil, eqvs_dgs, convA, c1, c2, c3]
set_option maxHeartbeats 4000000 in
theorem k125 (x1 x2 y1 y2 t1 t2 : Int) (c1 : ∀ σ, callI TT 170 [.agg [.int .i64 x1, .int .i64 x2]] σ = some (.bool true, σ)) (c2 : ∀ σ, callI TT 170 [.agg [.int .i64 y1, .int .i64 y2]] σ = some (.bool true, σ)) (c3 : ∀ σ, callI TT 105 [.agg [.int .i64 x1, .int .i64 x2], .agg [.int .i64 y1, .int .i64 y2]] σ = some (.tup [.agg [.int .i64 t1, .int .i64 t2], .bool true], σ)) :
    ∃ σ', exI TT (FI.of Try.f125 (TT.an 125)) [.code (Try.f125.body.getD .skip)] (paramsE 0 [.agg [.int .i64 x1, .int .i64 x2], .agg [.int .i64 y1, .int .i64 y2]]) ⟨[], 0⟩ = some (.tup [.agg [.int .i64 t1, .int .i64 t2], .bool true], σ') := by
  refine ex1 ?_
  rw [fi125]
  simp only [Try.f125, Option.getD]
  simp (maxSteps := 1000000) (disch := omega) [cellsAt, getCells, takeN, dropN, fieldAddrA, allOne, AV.one, n_push, storeCellsA, putN, overN, St.push, St.get, St.set, hget, hset, blt_dec, buildA, sizesOf, fillA, putCells, List.take_succ_cons, List.take_zero, List.drop_succ_cons, List.drop_zero, List.nil_append, List.cons_append, List.length_cons, List.length_nil, eqvs_dgs, convA, c1, c2, c3]
set_option maxHeartbeats 4000000 in
theorem k56 (x1 x2 y1 y2 t1 t2 : Int) (c1 : ∀ σ, callI TT 128 [.agg [.int .i64 x1, .int .i64 x2], .agg [.int .i64 y1, .int .i64 y2]] σ = some (.tup [.agg [.int .i64 t1, .int .i64 t2], .bool true], σ)) :
    ∃ σ', exI TT (FI.of Try.f56 (TT.an 56)) [.code (Try.f56.body.getD .skip)] (paramsE 0 [.agg [.int .i64 x1, .int .i64 x2], .agg [.int .i64 y1, .int .i64 y2]]) ⟨[], 0⟩ = some (.agg [.int .i64 t1, .int .i64 t2], σ') := by
  refine ex1 ?_
  rw [fi56]
  simp only [Try.f56, Option.getD]
  simp (maxSteps := 1000000) (disch := omega) [cellsAt, getCells, takeN, dropN, fieldAddrA, allOne, AV.one, n_push, storeCellsA, putN, overN, St.push, St.get, St.set, hget, hset, blt_dec, buildA, sizesOf, fillA, putCells, List.take_succ_cons, List.take_zero, List.drop_succ_cons, List.drop_zero, List.nil_append, List.cons_append, List.length_cons, List.length_nil, eqvs_dgs, convA, c1]
set_option maxHeartbeats 4000000 in
theorem k53 (x1 x2 y1 y2 t1 t2 : Int) (c1 : ∀ σ, callI TT 125 [.agg [.int .i64 x1, .int .i64 x2], .agg [.int .i64 y1, .int .i64 y2]] σ = some (.tup [.agg [.int .i64 t1, .int .i64 t2], .bool true], σ)) :
    ∃ σ', exI TT (FI.of Try.f53 (TT.an 53)) [.code (Try.f53.body.getD .skip)] (paramsE 0 [.agg [.int .i64 x1, .int .i64 x2], .agg [.int .i64 y1, .int .i64 y2]]) ⟨[], 0⟩ = some (.agg [.int .i64 t1, .int .i64 t2], σ') := by
  refine ex1 ?_
  rw [fi53]
  simp only [Try.f53, Option.getD]
  simp (maxSteps := 1000000) (disch := omega) [cellsAt, getCells, takeN, dropN, fieldAddrA, allOne, AV.one, n_push, storeCellsA, putN, overN, St.push, St.get, St.set, hget, hset, blt_dec, buildA, sizesOf, fillA, putCells, List.take_succ_cons, List.take_zero, List.drop_succ_cons, List.drop_zero, List.nil_append, List.cons_append, List.length_cons, List.length_nil, eqvs_dgs, convA, c1]
theorem r56 {a b : Rat} (ha : fits a = true) (hb : fits b = true) (h : fits (a + b) = true) (σ : St) : callI TT 56 [.agg (QC a), .agg (QC b)] σ = some (.agg (QC (a + b)), σ) := by
  have c1 := fun σ : St => v170 a.num a.den σ [.agg (QC a)] rfl
  have c2 := fun σ : St => v170 b.num b.den σ [.agg (QC b)] rfl
  rw [vfr_of ha] at c1
  rw [vfr_of hb] at c2
  have c3 : FnV TT 128 [.agg (QC a), .agg (QC b)] (.tup [.agg (QC (a + b)), .bool true]) := FnV.mk fn128 rfl md128 (k128 _ _ _ _ _ _ c1 c2 (fun σ => add_c ha hb h σ)) (fun _ => rfl) rfl
  have c4 : FnV TT 56 [.agg (QC a), .agg (QC b)] (.agg (QC (a + b))) := FnV.mk fn56 rfl md56 (k56 _ _ _ _ _ _ (fun σ => c3 σ _ rfl)) (fun _ => rfl) rfl
  exact c4 σ _ rfl
theorem r53 {a b : Rat} (ha : fits a = true) (hb : fits b = true) (h : fits (a * b) = true) (σ : St) : callI TT 53 [.agg (QC a), .agg (QC b)] σ = some (.agg (QC (a * b)), σ) := by
  have c1 := fun σ : St => v170 a.num a.den σ [.agg (QC a)] rfl
  have c2 := fun σ : St => v170 b.num b.den σ [.agg (QC b)] rfl
  rw [vfr_of ha] at c1
  rw [vfr_of hb] at c2
  have c3 : FnV TT 125 [.agg (QC a), .agg (QC b)] (.tup [.agg (QC (a * b)), .bool true]) := FnV.mk fn125 rfl md125 (k125 _ _ _ _ _ _ c1 c2 (fun σ => mul_c ha hb h σ)) (fun _ => rfl) rfl
  have c4 : FnV TT 53 [.agg (QC a), .agg (QC b)] (.agg (QC (a * b))) := FnV.mk fn53 rfl md53 (k53 _ _ _ _ _ _ (fun σ => c3 σ _ rfl)) (fun _ => rfl) rfl
  exact c4 σ _ rfl
set_option maxHeartbeats 4000000 in
theorem k120 (x1 x2 y1 y2 : Int) (z : Int) (c1 : ∀ σ, callI TT 170 [.agg [.int .i64 x1, .int .i64 x2]] σ = some (.bool true, σ)) (c2 : ∀ σ, callI TT 170 [.agg [.int .i64 y1, .int .i64 y2]] σ = some (.bool true, σ)) (c3 : ∀ σ, callI TT 69 [.agg [.int .i64 x1, .int .i64 x2], .agg [.int .i64 y1, .int .i64 y2]] σ = some (.int .i64 z, σ)) :
    ∃ σ', exI TT (FI.of Try.f120 (TT.an 120)) [.code (Try.f120.body.getD .skip)] (paramsE 0 [.agg [.int .i64 x1, .int .i64 x2], .agg [.int .i64 y1, .int .i64 y2]]) ⟨[], 0⟩ = some (.tup [.int .i64 z, .bool true], σ') := by
  refine ex1 ?_
  rw [fi120]
  simp only [Try.f120, Option.getD]
  simp (maxSteps := 1000000) (disch := omega) [cellsAt, getCells, takeN, dropN, fieldAddrA, allOne, AV.one, n_push, storeCellsA, putN, overN, St.push, St.get, St.set, hget, hset, blt_dec, buildA, sizesOf, fillA, putCells, List.take_succ_cons, List.take_zero, List.drop_succ_cons, List.drop_zero, List.nil_append, List.cons_append, List.length_cons, List.length_nil, eqvs_dgs, convA, c1, c2, c3]
set_option maxHeartbeats 4000000 in
theorem k46t (x1 x2 y1 y2 : Int) (z : Int) (c1 : ∀ σ, callI TT 120 [.agg [.int .i64 x1, .int .i64 x2], .agg [.int .i64 y1, .int .i64 y2]] σ = some (.tup [.int .i64 z, .bool true], σ)) (hb : z < 0) :
    ∃ σ', exI TT (FI.of Try.f46 (TT.an 46)) [.code (Try.f46.body.getD .skip)] (paramsE 0 [.agg [.int .i64 x1, .int .i64 x2], .agg [.int .i64 y1, .int .i64 y2]]) ⟨[], 0⟩ = some (.bool true, σ') := by
  refine ex1 ?_
  rw [fi46]
  simp only [Try.f46, Option.getD]
  simp (maxSteps := 1000000) (disch := omega) [cellsAt, getCells, takeN, dropN, fieldAddrA, allOne, AV.one, n_push, storeCellsA, putN, overN, St.push, St.get, St.set, hget, hset, blt_dec, buildA, sizesOf, fillA, putCells, List.take_succ_cons, List.take_zero, List.drop_succ_cons, List.drop_zero, List.nil_append, List.cons_append, List.length_cons, List.length_nil, eqvs_dgs, convA, c1, hb]
set_option maxHeartbeats 4000000 in
theorem k46f (x1 x2 y1 y2 : Int) (z : Int) (c1 : ∀ σ, callI TT 120 [.agg [.int .i64 x1, .int .i64 x2], .agg [.int .i64 y1, .int .i64 y2]] σ = some (.tup [.int .i64 z, .bool true], σ)) (hb : 0 ≤ z) :
    ∃ σ', exI TT (FI.of Try.f46 (TT.an 46)) [.code (Try.f46.body.getD .skip)] (paramsE 0 [.agg [.int .i64 x1, .int .i64 x2], .agg [.int .i64 y1, .int .i64 y2]]) ⟨[], 0⟩ = some (.bool false, σ') := by
  refine ex1 ?_
  rw [fi46]
  simp only [Try.f46, Option.getD]
  simp (maxSteps := 1000000) (disch := omega) [cellsAt, getCells, takeN, dropN, fieldAddrA, allOne, AV.one, n_push, storeCellsA, putN, overN, St.push, St.get, St.set, hget, hset, blt_dec, buildA, sizesOf, fillA, putCells, List.take_succ_cons, List.take_zero, List.drop_succ_cons, List.drop_zero, List.nil_append, List.cons_append, List.length_cons, List.length_nil, eqvs_dgs, convA, c1, hb]
theorem cmp_neg {p q : Rat} : cmpR p q < 0 ↔ p < q := by
  unfold cmpR
  constructor
  · intro h
    split at h
    · omega
    · split at h
      · rename_i h2
        have := ng_iff.1 h2
        grind
      · omega
  · intro h
    have h1 : ¬ p - q = 0 := by grind
    rw [if_neg h1, if_pos (ng_iff.2 (by grind))]
    decide
theorem r46 {a b : Rat} (ha : fits a = true) (hb : fits b = true) (σ : St) : callI TT 46 [.agg (QC a), .agg (QC b)] σ = some (.bool (decide (a < b)), σ) := by
  have c1 := fun σ : St => v170 a.num a.den σ [.agg (QC a)] rfl
  have c2 := fun σ : St => v170 b.num b.den σ [.agg (QC b)] rfl
  have c3 := fun σ : St => v69 (vfr_of ha) (vfr_of hb) σ [.agg (QC a), .agg (QC b)] rfl
  rw [mk_self, mk_self] at c3
  rw [vfr_of ha] at c1
  rw [vfr_of hb] at c2
  have c4 : FnV TT 120 [.agg (QC a), .agg (QC b)] (.tup [.int .i64 (cmpR a b), .bool true]) := FnV.mk fn120 rfl md120 (k120 _ _ _ _ _ c1 c2 c3) (fun _ => rfl) rfl
  by_cases h : a < b
  · rw [decide_eq_true h]
    have c5 : FnV TT 46 [.agg (QC a), .agg (QC b)] (.bool true) := FnV.mk fn46 rfl md46 (k46t _ _ _ _ _ (fun σ => c4 σ _ rfl) (cmp_neg.2 h)) (fun _ => rfl) rfl
    exact c5 σ _ rfl
  · rw [decide_eq_false h]
    have c5 : FnV TT 46 [.agg (QC a), .agg (QC b)] (.bool false) := FnV.mk fn46 rfl md46 (k46f _ _ _ _ _ (fun σ => c4 σ _ rfl) (Int.not_lt.1 fun hh => h (cmp_neg.1 hh))) (fun _ => rfl) rfl
    exact c5 σ _ rfl

theorem v39 (n m : Nat) (xs ys : List AV) : FnV TT 39 [.lst n xs, .lst m ys] (.bool (decide (1048576 < n) || decide (1048576 < m))) := by
  refine FnV.mk fn39 rfl md39 ⟨⟨[], 0⟩, ?_⟩ (fun _ => rfl) rfl
  rw [fi39]
  by_cases h : 1048576 < n
  · have h' : ¬ (n : Int) ≤ 1048576 := by omega
    simp [xI_seq, xI_region, xI_ret, regA, regOps, runOps, opStep, wantedA, opA, evo, evos, calleeA, lk, nif_eq, putE, paramsE, valS, val2, keepE, restrict, finA, resA, binA, binInt, ofConst, ofConst1, loadA, TK.isAgg, asVar, unA, builtinA, lenOpA, lenA, ileb_cast, ileb_eq, ieqb_dec, indexAddrA, inB_dec, evPairs, storeA, AV.cellsOf, pairsOf, xI_nil, binBool, gcE, evOpt, xI_block, xI_loopH, xI_condM, xI_exitM, xI_skip, xI_blk, exitA, ty3, ty5, ty55, h, h']
  · have h' : (n : Int) ≤ 1048576 := by omega
    by_cases h2 : 1048576 < m
    · have h2' : ¬ (m : Int) ≤ 1048576 := by omega
      simp [xI_seq, xI_region, xI_ret, regA, regOps, runOps, opStep, wantedA, opA, evo, evos, calleeA, lk, nif_eq, putE, paramsE, valS, val2, keepE, restrict, finA, resA, binA, binInt, ofConst, ofConst1, loadA, TK.isAgg, asVar, unA, builtinA, lenOpA, lenA, ileb_cast, ileb_eq, ieqb_dec, indexAddrA, inB_dec, evPairs, storeA, AV.cellsOf, pairsOf, xI_nil, binBool, gcE, evOpt, xI_block, xI_loopH, xI_condM, xI_exitM, xI_skip, xI_blk, exitA, ty3, ty5, ty55, h, h', h2, h2']
    · have h2' : (m : Int) ≤ 1048576 := by omega
      simp [xI_seq, xI_region, xI_ret, regA, regOps, runOps, opStep, wantedA, opA, evo, evos, calleeA, lk, nif_eq, putE, paramsE, valS, val2, keepE, restrict, finA, resA, binA, binInt, ofConst, ofConst1, loadA, TK.isAgg, asVar, unA, builtinA, lenOpA, lenA, ileb_cast, ileb_eq, ieqb_dec, indexAddrA, inB_dec, evPairs, storeA, AV.cellsOf, pairsOf, xI_nil, binBool, gcE, evOpt, xI_block, xI_loopH, xI_condM, xI_exitM, xI_skip, xI_blk, exitA, ty3, ty5, ty55, h, h', h2, h2']

theorem v41 (l : List Nat) (hl : ∀ x ∈ l, x < 256) (i n : Nat) (hn2 : n < 1000000) (hi : i < 1000000) : ∃ r : Nat, r < max 1 n ∧ FnV TT 41 [.lst l.length (byts l), .int .i64 i, .int .i64 n] (.int .i64 r) := by
  by_cases h1 : n ≤ 1
  · have h1' : (n : Int) ≤ 1 := by omega
    refine ⟨0, by omega, FnV.mk fn41 rfl md41 ⟨⟨[], 0⟩, ?_⟩ (fun _ => rfl) rfl⟩
    rw [fi41]
    simp [xI_seq, xI_region, xI_ret, regA, regOps, runOps, opStep, wantedA, opA, evo, evos, calleeA, lk, nif_eq, putE, paramsE, valS, val2, keepE, restrict, finA, resA, binA, binInt, ofConst, ofConst1, loadA, TK.isAgg, asVar, unA, builtinA, lenOpA, lenA, ileb_cast, ileb_eq, ieqb_dec, indexAddrA, inB_dec, evPairs, storeA, AV.cellsOf, pairsOf, xI_nil, binBool, gcE, evOpt, xI_block, xI_loopH, xI_condM, xI_exitM, xI_skip, xI_blk, exitA, ty2, ty5, ty55, h1, h1']
  have hn : 1 < n := by omega
  have h0 : ¬ (n : Int) ≤ 1 := by omega
  by_cases hil : i < l.length
  · obtain ⟨x, hx⟩ : ∃ x, l[i]? = some x := ⟨_, List.getElem?_eq_getElem hil⟩
    have hx2 : x < 256 := hl x (List.mem_of_getElem? hx)
    have hr : cellsAt (⟨[], 0⟩ : St) (.lp (byts l) i) 1 = some [.int .u8 x] := getCells_byt hx
    have hil2 : ¬ l.length ≤ i := by omega
    have hw : wrapA .i64 (x : Int) = x := wrapA_id (by omega) (by omega)
    have hm : (x : Int).tmod n = (x % n : Nat) := by rw [Int.tmod_eq_emod_of_nonneg (by omega)]; simp
    have hne : ¬ (n : Int) = 0 := by omega
    have hne2 : ¬ n = 0 := by omega
    have hlt := Nat.mod_lt x (show 0 < n by omega)
    refine ⟨x % n, by omega, FnV.mk fn41 rfl md41 ⟨⟨[], 0⟩, ?_⟩ (fun _ => rfl) rfl⟩
    rw [fi41]
    simp [xI_seq, xI_region, xI_ret, regA, regOps, runOps, opStep, wantedA, opA, evo, evos, calleeA, lk, nif_eq, putE, paramsE, valS, val2, keepE, restrict, finA, resA, binA, binInt, ofConst, ofConst1, loadA, TK.isAgg, asVar, unA, builtinA, lenOpA, lenA, ileb_cast, ileb_eq, ieqb_dec, indexAddrA, inB_dec, evPairs, storeA, AV.cellsOf, pairsOf, xI_nil, binBool, gcE, evOpt, xI_block, xI_loopH, xI_condM, xI_exitM, xI_skip, xI_blk, exitA, ty2, ty5, ty55, h0, hil, hil2, hr, convA, hw, hm, hne, hne2, ty5]
  · have hil2 : l.length ≤ i := by omega
    have hw : wrapA .i64 ((i : Int) * 37) = ((i * 37 : Nat) : Int) := by rw [wrapA_id (by omega) (by omega)]; omega
    have hw2 : wrapA .i64 (((i * 37 : Nat) : Int) + 11) = ((i * 37 + 11 : Nat) : Int) := by rw [wrapA_id (by omega) (by omega)]; omega
    have hm : ((i * 37 + 11 : Nat) : Int).tmod n = ((i * 37 + 11) % n : Nat) := by rw [Int.tmod_eq_emod_of_nonneg (by omega)]; simp
    have hne : ¬ (n : Int) = 0 := by omega
    have hne2 : ¬ n = 0 := by omega
    have hlt := Nat.mod_lt (i * 37 + 11) (show 0 < n by omega)
    refine ⟨(i * 37 + 11) % n, by omega, FnV.mk fn41 rfl md41 ⟨⟨[], 0⟩, ?_⟩ (fun _ => rfl) rfl⟩
    rw [fi41]
    generalize hz : i * 37 = z at *
    generalize hz2 : z + 11 = z2 at *
    simp [xI_seq, xI_region, xI_ret, regA, regOps, runOps, opStep, wantedA, opA, evo, evos, calleeA, lk, nif_eq, putE, paramsE, valS, val2, keepE, restrict, finA, resA, binA, binInt, ofConst, ofConst1, loadA, TK.isAgg, asVar, unA, builtinA, lenOpA, lenA, ileb_cast, ileb_eq, ieqb_dec, indexAddrA, inB_dec, evPairs, storeA, AV.cellsOf, pairsOf, xI_nil, binBool, gcE, evOpt, xI_block, xI_loopH, xI_condM, xI_exitM, xI_skip, xI_blk, exitA, ty2, ty5, ty55, h0, hil, hil2, hw, hw2, hm, hne, hne2, ty5]

/-- The orders of few things, with the numbers of their rising sequences. -/
def ordT : Nat → List (List Int)
  | 1 => [[0]]
  | 2 => [[0, 1], [1, 0]]
  | 3 => [[0, 1, 2], [0, 2, 1], [1, 0, 2], [1, 2, 0], [2, 0, 1], [2, 1, 0]]
  | 4 => [[0, 1, 2, 3], [0, 1, 3, 2], [0, 2, 1, 3], [0, 2, 3, 1], [0, 3, 1, 2], [0, 3, 2, 1], [1, 0, 2, 3], [1, 0, 3, 2], [1, 2, 0, 3], [1, 2, 3, 0], [1, 3, 0, 2], [1, 3, 2, 0], [2, 0, 1, 3], [2, 0, 3, 1], [2, 1, 0, 3], [2, 1, 3, 0], [2, 3, 0, 1], [2, 3, 1, 0], [3, 0, 1, 2], [3, 0, 2, 1], [3, 1, 0, 2], [3, 1, 2, 0], [3, 2, 0, 1], [3, 2, 1, 0]]
  | 5 => [[0, 1, 2, 3, 4], [0, 1, 2, 4, 3], [0, 1, 3, 2, 4], [0, 1, 3, 4, 2], [0, 1, 4, 2, 3], [0, 1, 4, 3, 2], [0, 2, 1, 3, 4], [0, 2, 1, 4, 3], [0, 2, 3, 1, 4], [0, 2, 3, 4, 1], [0, 2, 4, 1, 3], [0, 2, 4, 3, 1], [0, 3, 1, 2, 4], [0, 3, 1, 4, 2], [0, 3, 2, 1, 4], [0, 3, 2, 4, 1], [0, 3, 4, 1, 2], [0, 3, 4, 2, 1], [0, 4, 1, 2, 3], [0, 4, 1, 3, 2], [0, 4, 2, 1, 3], [0, 4, 2, 3, 1], [0, 4, 3, 1, 2], [0, 4, 3, 2, 1], [1, 0, 2, 3, 4], [1, 0, 2, 4, 3], [1, 0, 3, 2, 4], [1, 0, 3, 4, 2], [1, 0, 4, 2, 3], [1, 0, 4, 3, 2], [1, 2, 0, 3, 4], [1, 2, 0, 4, 3], [1, 2, 3, 0, 4], [1, 2, 3, 4, 0], [1, 2, 4, 0, 3], [1, 2, 4, 3, 0], [1, 3, 0, 2, 4], [1, 3, 0, 4, 2], [1, 3, 2, 0, 4], [1, 3, 2, 4, 0], [1, 3, 4, 0, 2], [1, 3, 4, 2, 0], [1, 4, 0, 2, 3], [1, 4, 0, 3, 2], [1, 4, 2, 0, 3], [1, 4, 2, 3, 0], [1, 4, 3, 0, 2], [1, 4, 3, 2, 0], [2, 0, 1, 3, 4], [2, 0, 1, 4, 3], [2, 0, 3, 1, 4], [2, 0, 3, 4, 1], [2, 0, 4, 1, 3], [2, 0, 4, 3, 1], [2, 1, 0, 3, 4], [2, 1, 0, 4, 3], [2, 1, 3, 0, 4], [2, 1, 3, 4, 0], [2, 1, 4, 0, 3], [2, 1, 4, 3, 0], [2, 3, 0, 1, 4], [2, 3, 0, 4, 1], [2, 3, 1, 0, 4], [2, 3, 1, 4, 0], [2, 3, 4, 0, 1], [2, 3, 4, 1, 0], [2, 4, 0, 1, 3], [2, 4, 0, 3, 1], [2, 4, 1, 0, 3], [2, 4, 1, 3, 0], [2, 4, 3, 0, 1], [2, 4, 3, 1, 0], [3, 0, 1, 2, 4], [3, 0, 1, 4, 2], [3, 0, 2, 1, 4], [3, 0, 2, 4, 1], [3, 0, 4, 1, 2], [3, 0, 4, 2, 1], [3, 1, 0, 2, 4], [3, 1, 0, 4, 2], [3, 1, 2, 0, 4], [3, 1, 2, 4, 0], [3, 1, 4, 0, 2], [3, 1, 4, 2, 0], [3, 2, 0, 1, 4], [3, 2, 0, 4, 1], [3, 2, 1, 0, 4], [3, 2, 1, 4, 0], [3, 2, 4, 0, 1], [3, 2, 4, 1, 0], [3, 4, 0, 1, 2], [3, 4, 0, 2, 1], [3, 4, 1, 0, 2], [3, 4, 1, 2, 0], [3, 4, 2, 0, 1], [3, 4, 2, 1, 0], [4, 0, 1, 2, 3], [4, 0, 1, 3, 2], [4, 0, 2, 1, 3], [4, 0, 2, 3, 1], [4, 0, 3, 1, 2], [4, 0, 3, 2, 1], [4, 1, 0, 2, 3], [4, 1, 0, 3, 2], [4, 1, 2, 0, 3], [4, 1, 2, 3, 0], [4, 1, 3, 0, 2], [4, 1, 3, 2, 0], [4, 2, 0, 1, 3], [4, 2, 0, 3, 1], [4, 2, 1, 0, 3], [4, 2, 1, 3, 0], [4, 2, 3, 0, 1], [4, 2, 3, 1, 0], [4, 3, 0, 1, 2], [4, 3, 0, 2, 1], [4, 3, 1, 0, 2], [4, 3, 1, 2, 0], [4, 3, 2, 0, 1], [4, 3, 2, 1, 0]]
  | _ => []
def risT : Nat → List Nat
  | 1 => [1]
  | 2 => [1, 2]
  | 3 => [1, 2, 2, 2, 2, 3]
  | 4 => [1, 2, 2, 2, 2, 3, 2, 3, 2, 2, 3, 3, 2, 2, 3, 3, 2, 3, 2, 3, 3, 3, 3, 4]
  | 5 => [1, 2, 2, 2, 2, 3, 2, 3, 2, 2, 3, 3, 2, 2, 3, 3, 2, 3, 2, 3, 3, 3, 3, 4, 2, 3, 3, 3, 3, 4, 2, 3, 2, 2, 3, 3, 3, 3, 3, 3, 3, 3, 3, 4, 3, 3, 4, 4, 2, 3, 2, 2, 3, 3, 3, 4, 3, 3, 4, 4, 2, 2, 3, 3, 2, 3, 3, 3, 4, 4, 3, 4, 2, 2, 3, 3, 2, 3, 3, 3, 3, 3, 3, 3, 3, 3, 4, 4, 3, 4, 2, 3, 3, 3, 3, 4, 2, 3, 3, 3, 3, 4, 3, 4, 3, 3, 4, 4, 3, 3, 4, 4, 3, 4, 3, 4, 4, 4, 4, 5]
  | _ => []
def ordA (n i : Nat) : List Int := (ordT n).getD i []
def risB (n i : Nat) : Nat := (risT n).getD i 1
theorem n5 {P : Nat → Prop} (h1 : P 1) (h2 : P 2) (h3 : P 3) (h4 : P 4) (h5 : P 5) : ∀ n, 1 ≤ n → n ≤ 5 → P n := by
  intro n h h'
  have : n = 1 ∨ n = 2 ∨ n = 3 ∨ n = 4 ∨ n = 5 := by omega
  rcases this with rfl | rfl | rfl | rfl | rfl <;> assumption
def chkO (n : Nat) : Bool := (List.range (facN n)).all fun i => isO (ordA n i) && (decide ((ordA n i).length = n) && (decide (risN (ordA n i) = risB n i) && (decide (1 ≤ risB n i) && decide (risB n i ≤ n))))

theorem chkO_1 : chkO 1 = true := by decide +kernel
theorem chkO_2 : chkO 2 = true := by decide +kernel
theorem chkO_3 : chkO 3 = true := by decide +kernel
theorem chkO_4 : chkO 4 = true := by decide +kernel
theorem chkO_5 : chkO 5 = true := by decide +kernel
theorem chkO_all : ∀ n, 1 ≤ n → n ≤ 5 → chkO n = true := n5 chkO_1 chkO_2 chkO_3 chkO_4 chkO_5
theorem xf_1 : FnV TT 54 [.int .i64 1] (.int .i64 (facN 1 : Nat)) := FnV.mk fn54 rfl md54 (exI_of_exec (n := 1000) (by kernel_rfl)) (fun _ => rfl) rfl
theorem xo_1_0 : FnF TT 55 [.int .i64 1, .int .i64 0] (.tup [.lst 1 (ints (ordA 1 0)), .bool true]) := FnF_exec 5000 fn55 rfl md55 (by kernel_rfl)
theorem xf_2 : FnV TT 54 [.int .i64 2] (.int .i64 (facN 2 : Nat)) := FnV.mk fn54 rfl md54 (exI_of_exec (n := 1000) (by kernel_rfl)) (fun _ => rfl) rfl
theorem xo_2_0 : FnF TT 55 [.int .i64 2, .int .i64 0] (.tup [.lst 2 (ints (ordA 2 0)), .bool true]) := FnF_exec 5000 fn55 rfl md55 (by kernel_rfl)
theorem xo_2_1 : FnF TT 55 [.int .i64 2, .int .i64 1] (.tup [.lst 2 (ints (ordA 2 1)), .bool true]) := FnF_exec 5000 fn55 rfl md55 (by kernel_rfl)
theorem xf_3 : FnV TT 54 [.int .i64 3] (.int .i64 (facN 3 : Nat)) := FnV.mk fn54 rfl md54 (exI_of_exec (n := 1000) (by kernel_rfl)) (fun _ => rfl) rfl
theorem xo_3_0 : FnF TT 55 [.int .i64 3, .int .i64 0] (.tup [.lst 3 (ints (ordA 3 0)), .bool true]) := FnF_exec 5000 fn55 rfl md55 (by kernel_rfl)
theorem xo_3_1 : FnF TT 55 [.int .i64 3, .int .i64 1] (.tup [.lst 3 (ints (ordA 3 1)), .bool true]) := FnF_exec 5000 fn55 rfl md55 (by kernel_rfl)
theorem xo_3_2 : FnF TT 55 [.int .i64 3, .int .i64 2] (.tup [.lst 3 (ints (ordA 3 2)), .bool true]) := FnF_exec 5000 fn55 rfl md55 (by kernel_rfl)
theorem xo_3_3 : FnF TT 55 [.int .i64 3, .int .i64 3] (.tup [.lst 3 (ints (ordA 3 3)), .bool true]) := FnF_exec 5000 fn55 rfl md55 (by kernel_rfl)
theorem xo_3_4 : FnF TT 55 [.int .i64 3, .int .i64 4] (.tup [.lst 3 (ints (ordA 3 4)), .bool true]) := FnF_exec 5000 fn55 rfl md55 (by kernel_rfl)
theorem xo_3_5 : FnF TT 55 [.int .i64 3, .int .i64 5] (.tup [.lst 3 (ints (ordA 3 5)), .bool true]) := FnF_exec 5000 fn55 rfl md55 (by kernel_rfl)
theorem xf_4 : FnV TT 54 [.int .i64 4] (.int .i64 (facN 4 : Nat)) := FnV.mk fn54 rfl md54 (exI_of_exec (n := 1000) (by kernel_rfl)) (fun _ => rfl) rfl
theorem xo_4_0 : FnF TT 55 [.int .i64 4, .int .i64 0] (.tup [.lst 4 (ints (ordA 4 0)), .bool true]) := FnF_exec 5000 fn55 rfl md55 (by kernel_rfl)
theorem xo_4_1 : FnF TT 55 [.int .i64 4, .int .i64 1] (.tup [.lst 4 (ints (ordA 4 1)), .bool true]) := FnF_exec 5000 fn55 rfl md55 (by kernel_rfl)
theorem xo_4_2 : FnF TT 55 [.int .i64 4, .int .i64 2] (.tup [.lst 4 (ints (ordA 4 2)), .bool true]) := FnF_exec 5000 fn55 rfl md55 (by kernel_rfl)
theorem xo_4_3 : FnF TT 55 [.int .i64 4, .int .i64 3] (.tup [.lst 4 (ints (ordA 4 3)), .bool true]) := FnF_exec 5000 fn55 rfl md55 (by kernel_rfl)
theorem xo_4_4 : FnF TT 55 [.int .i64 4, .int .i64 4] (.tup [.lst 4 (ints (ordA 4 4)), .bool true]) := FnF_exec 5000 fn55 rfl md55 (by kernel_rfl)
theorem xo_4_5 : FnF TT 55 [.int .i64 4, .int .i64 5] (.tup [.lst 4 (ints (ordA 4 5)), .bool true]) := FnF_exec 5000 fn55 rfl md55 (by kernel_rfl)
theorem xo_4_6 : FnF TT 55 [.int .i64 4, .int .i64 6] (.tup [.lst 4 (ints (ordA 4 6)), .bool true]) := FnF_exec 5000 fn55 rfl md55 (by kernel_rfl)
theorem xo_4_7 : FnF TT 55 [.int .i64 4, .int .i64 7] (.tup [.lst 4 (ints (ordA 4 7)), .bool true]) := FnF_exec 5000 fn55 rfl md55 (by kernel_rfl)
theorem xo_4_8 : FnF TT 55 [.int .i64 4, .int .i64 8] (.tup [.lst 4 (ints (ordA 4 8)), .bool true]) := FnF_exec 5000 fn55 rfl md55 (by kernel_rfl)
theorem xo_4_9 : FnF TT 55 [.int .i64 4, .int .i64 9] (.tup [.lst 4 (ints (ordA 4 9)), .bool true]) := FnF_exec 5000 fn55 rfl md55 (by kernel_rfl)
theorem xo_4_10 : FnF TT 55 [.int .i64 4, .int .i64 10] (.tup [.lst 4 (ints (ordA 4 10)), .bool true]) := FnF_exec 5000 fn55 rfl md55 (by kernel_rfl)
theorem xo_4_11 : FnF TT 55 [.int .i64 4, .int .i64 11] (.tup [.lst 4 (ints (ordA 4 11)), .bool true]) := FnF_exec 5000 fn55 rfl md55 (by kernel_rfl)
theorem xo_4_12 : FnF TT 55 [.int .i64 4, .int .i64 12] (.tup [.lst 4 (ints (ordA 4 12)), .bool true]) := FnF_exec 5000 fn55 rfl md55 (by kernel_rfl)
theorem xo_4_13 : FnF TT 55 [.int .i64 4, .int .i64 13] (.tup [.lst 4 (ints (ordA 4 13)), .bool true]) := FnF_exec 5000 fn55 rfl md55 (by kernel_rfl)
theorem xo_4_14 : FnF TT 55 [.int .i64 4, .int .i64 14] (.tup [.lst 4 (ints (ordA 4 14)), .bool true]) := FnF_exec 5000 fn55 rfl md55 (by kernel_rfl)
theorem xo_4_15 : FnF TT 55 [.int .i64 4, .int .i64 15] (.tup [.lst 4 (ints (ordA 4 15)), .bool true]) := FnF_exec 5000 fn55 rfl md55 (by kernel_rfl)
theorem xo_4_16 : FnF TT 55 [.int .i64 4, .int .i64 16] (.tup [.lst 4 (ints (ordA 4 16)), .bool true]) := FnF_exec 5000 fn55 rfl md55 (by kernel_rfl)
theorem xo_4_17 : FnF TT 55 [.int .i64 4, .int .i64 17] (.tup [.lst 4 (ints (ordA 4 17)), .bool true]) := FnF_exec 5000 fn55 rfl md55 (by kernel_rfl)
theorem xo_4_18 : FnF TT 55 [.int .i64 4, .int .i64 18] (.tup [.lst 4 (ints (ordA 4 18)), .bool true]) := FnF_exec 5000 fn55 rfl md55 (by kernel_rfl)
theorem xo_4_19 : FnF TT 55 [.int .i64 4, .int .i64 19] (.tup [.lst 4 (ints (ordA 4 19)), .bool true]) := FnF_exec 5000 fn55 rfl md55 (by kernel_rfl)
theorem xo_4_20 : FnF TT 55 [.int .i64 4, .int .i64 20] (.tup [.lst 4 (ints (ordA 4 20)), .bool true]) := FnF_exec 5000 fn55 rfl md55 (by kernel_rfl)
theorem xo_4_21 : FnF TT 55 [.int .i64 4, .int .i64 21] (.tup [.lst 4 (ints (ordA 4 21)), .bool true]) := FnF_exec 5000 fn55 rfl md55 (by kernel_rfl)
theorem xo_4_22 : FnF TT 55 [.int .i64 4, .int .i64 22] (.tup [.lst 4 (ints (ordA 4 22)), .bool true]) := FnF_exec 5000 fn55 rfl md55 (by kernel_rfl)
theorem xo_4_23 : FnF TT 55 [.int .i64 4, .int .i64 23] (.tup [.lst 4 (ints (ordA 4 23)), .bool true]) := FnF_exec 5000 fn55 rfl md55 (by kernel_rfl)
theorem xf_5 : FnV TT 54 [.int .i64 5] (.int .i64 (facN 5 : Nat)) := FnV.mk fn54 rfl md54 (exI_of_exec (n := 1000) (by kernel_rfl)) (fun _ => rfl) rfl
theorem xo_5_0 : FnF TT 55 [.int .i64 5, .int .i64 0] (.tup [.lst 5 (ints (ordA 5 0)), .bool true]) := FnF_exec 5000 fn55 rfl md55 (by kernel_rfl)
theorem xo_5_1 : FnF TT 55 [.int .i64 5, .int .i64 1] (.tup [.lst 5 (ints (ordA 5 1)), .bool true]) := FnF_exec 5000 fn55 rfl md55 (by kernel_rfl)
theorem xo_5_2 : FnF TT 55 [.int .i64 5, .int .i64 2] (.tup [.lst 5 (ints (ordA 5 2)), .bool true]) := FnF_exec 5000 fn55 rfl md55 (by kernel_rfl)
theorem xo_5_3 : FnF TT 55 [.int .i64 5, .int .i64 3] (.tup [.lst 5 (ints (ordA 5 3)), .bool true]) := FnF_exec 5000 fn55 rfl md55 (by kernel_rfl)
theorem xo_5_4 : FnF TT 55 [.int .i64 5, .int .i64 4] (.tup [.lst 5 (ints (ordA 5 4)), .bool true]) := FnF_exec 5000 fn55 rfl md55 (by kernel_rfl)
theorem xo_5_5 : FnF TT 55 [.int .i64 5, .int .i64 5] (.tup [.lst 5 (ints (ordA 5 5)), .bool true]) := FnF_exec 5000 fn55 rfl md55 (by kernel_rfl)
theorem xo_5_6 : FnF TT 55 [.int .i64 5, .int .i64 6] (.tup [.lst 5 (ints (ordA 5 6)), .bool true]) := FnF_exec 5000 fn55 rfl md55 (by kernel_rfl)
theorem xo_5_7 : FnF TT 55 [.int .i64 5, .int .i64 7] (.tup [.lst 5 (ints (ordA 5 7)), .bool true]) := FnF_exec 5000 fn55 rfl md55 (by kernel_rfl)
theorem xo_5_8 : FnF TT 55 [.int .i64 5, .int .i64 8] (.tup [.lst 5 (ints (ordA 5 8)), .bool true]) := FnF_exec 5000 fn55 rfl md55 (by kernel_rfl)
theorem xo_5_9 : FnF TT 55 [.int .i64 5, .int .i64 9] (.tup [.lst 5 (ints (ordA 5 9)), .bool true]) := FnF_exec 5000 fn55 rfl md55 (by kernel_rfl)
theorem xo_5_10 : FnF TT 55 [.int .i64 5, .int .i64 10] (.tup [.lst 5 (ints (ordA 5 10)), .bool true]) := FnF_exec 5000 fn55 rfl md55 (by kernel_rfl)
theorem xo_5_11 : FnF TT 55 [.int .i64 5, .int .i64 11] (.tup [.lst 5 (ints (ordA 5 11)), .bool true]) := FnF_exec 5000 fn55 rfl md55 (by kernel_rfl)
theorem xo_5_12 : FnF TT 55 [.int .i64 5, .int .i64 12] (.tup [.lst 5 (ints (ordA 5 12)), .bool true]) := FnF_exec 5000 fn55 rfl md55 (by kernel_rfl)
theorem xo_5_13 : FnF TT 55 [.int .i64 5, .int .i64 13] (.tup [.lst 5 (ints (ordA 5 13)), .bool true]) := FnF_exec 5000 fn55 rfl md55 (by kernel_rfl)
theorem xo_5_14 : FnF TT 55 [.int .i64 5, .int .i64 14] (.tup [.lst 5 (ints (ordA 5 14)), .bool true]) := FnF_exec 5000 fn55 rfl md55 (by kernel_rfl)
theorem xo_5_15 : FnF TT 55 [.int .i64 5, .int .i64 15] (.tup [.lst 5 (ints (ordA 5 15)), .bool true]) := FnF_exec 5000 fn55 rfl md55 (by kernel_rfl)
theorem xo_5_16 : FnF TT 55 [.int .i64 5, .int .i64 16] (.tup [.lst 5 (ints (ordA 5 16)), .bool true]) := FnF_exec 5000 fn55 rfl md55 (by kernel_rfl)
theorem xo_5_17 : FnF TT 55 [.int .i64 5, .int .i64 17] (.tup [.lst 5 (ints (ordA 5 17)), .bool true]) := FnF_exec 5000 fn55 rfl md55 (by kernel_rfl)
theorem xo_5_18 : FnF TT 55 [.int .i64 5, .int .i64 18] (.tup [.lst 5 (ints (ordA 5 18)), .bool true]) := FnF_exec 5000 fn55 rfl md55 (by kernel_rfl)
theorem xo_5_19 : FnF TT 55 [.int .i64 5, .int .i64 19] (.tup [.lst 5 (ints (ordA 5 19)), .bool true]) := FnF_exec 5000 fn55 rfl md55 (by kernel_rfl)
theorem xo_5_20 : FnF TT 55 [.int .i64 5, .int .i64 20] (.tup [.lst 5 (ints (ordA 5 20)), .bool true]) := FnF_exec 5000 fn55 rfl md55 (by kernel_rfl)
theorem xo_5_21 : FnF TT 55 [.int .i64 5, .int .i64 21] (.tup [.lst 5 (ints (ordA 5 21)), .bool true]) := FnF_exec 5000 fn55 rfl md55 (by kernel_rfl)
theorem xo_5_22 : FnF TT 55 [.int .i64 5, .int .i64 22] (.tup [.lst 5 (ints (ordA 5 22)), .bool true]) := FnF_exec 5000 fn55 rfl md55 (by kernel_rfl)
theorem xo_5_23 : FnF TT 55 [.int .i64 5, .int .i64 23] (.tup [.lst 5 (ints (ordA 5 23)), .bool true]) := FnF_exec 5000 fn55 rfl md55 (by kernel_rfl)
theorem xo_5_24 : FnF TT 55 [.int .i64 5, .int .i64 24] (.tup [.lst 5 (ints (ordA 5 24)), .bool true]) := FnF_exec 5000 fn55 rfl md55 (by kernel_rfl)
theorem xo_5_25 : FnF TT 55 [.int .i64 5, .int .i64 25] (.tup [.lst 5 (ints (ordA 5 25)), .bool true]) := FnF_exec 5000 fn55 rfl md55 (by kernel_rfl)
theorem xo_5_26 : FnF TT 55 [.int .i64 5, .int .i64 26] (.tup [.lst 5 (ints (ordA 5 26)), .bool true]) := FnF_exec 5000 fn55 rfl md55 (by kernel_rfl)
theorem xo_5_27 : FnF TT 55 [.int .i64 5, .int .i64 27] (.tup [.lst 5 (ints (ordA 5 27)), .bool true]) := FnF_exec 5000 fn55 rfl md55 (by kernel_rfl)
theorem xo_5_28 : FnF TT 55 [.int .i64 5, .int .i64 28] (.tup [.lst 5 (ints (ordA 5 28)), .bool true]) := FnF_exec 5000 fn55 rfl md55 (by kernel_rfl)
theorem xo_5_29 : FnF TT 55 [.int .i64 5, .int .i64 29] (.tup [.lst 5 (ints (ordA 5 29)), .bool true]) := FnF_exec 5000 fn55 rfl md55 (by kernel_rfl)
theorem xo_5_30 : FnF TT 55 [.int .i64 5, .int .i64 30] (.tup [.lst 5 (ints (ordA 5 30)), .bool true]) := FnF_exec 5000 fn55 rfl md55 (by kernel_rfl)
theorem xo_5_31 : FnF TT 55 [.int .i64 5, .int .i64 31] (.tup [.lst 5 (ints (ordA 5 31)), .bool true]) := FnF_exec 5000 fn55 rfl md55 (by kernel_rfl)
theorem xo_5_32 : FnF TT 55 [.int .i64 5, .int .i64 32] (.tup [.lst 5 (ints (ordA 5 32)), .bool true]) := FnF_exec 5000 fn55 rfl md55 (by kernel_rfl)
theorem xo_5_33 : FnF TT 55 [.int .i64 5, .int .i64 33] (.tup [.lst 5 (ints (ordA 5 33)), .bool true]) := FnF_exec 5000 fn55 rfl md55 (by kernel_rfl)
theorem xo_5_34 : FnF TT 55 [.int .i64 5, .int .i64 34] (.tup [.lst 5 (ints (ordA 5 34)), .bool true]) := FnF_exec 5000 fn55 rfl md55 (by kernel_rfl)
theorem xo_5_35 : FnF TT 55 [.int .i64 5, .int .i64 35] (.tup [.lst 5 (ints (ordA 5 35)), .bool true]) := FnF_exec 5000 fn55 rfl md55 (by kernel_rfl)
theorem xo_5_36 : FnF TT 55 [.int .i64 5, .int .i64 36] (.tup [.lst 5 (ints (ordA 5 36)), .bool true]) := FnF_exec 5000 fn55 rfl md55 (by kernel_rfl)
theorem xo_5_37 : FnF TT 55 [.int .i64 5, .int .i64 37] (.tup [.lst 5 (ints (ordA 5 37)), .bool true]) := FnF_exec 5000 fn55 rfl md55 (by kernel_rfl)
theorem xo_5_38 : FnF TT 55 [.int .i64 5, .int .i64 38] (.tup [.lst 5 (ints (ordA 5 38)), .bool true]) := FnF_exec 5000 fn55 rfl md55 (by kernel_rfl)
theorem xo_5_39 : FnF TT 55 [.int .i64 5, .int .i64 39] (.tup [.lst 5 (ints (ordA 5 39)), .bool true]) := FnF_exec 5000 fn55 rfl md55 (by kernel_rfl)
theorem xo_5_40 : FnF TT 55 [.int .i64 5, .int .i64 40] (.tup [.lst 5 (ints (ordA 5 40)), .bool true]) := FnF_exec 5000 fn55 rfl md55 (by kernel_rfl)
theorem xo_5_41 : FnF TT 55 [.int .i64 5, .int .i64 41] (.tup [.lst 5 (ints (ordA 5 41)), .bool true]) := FnF_exec 5000 fn55 rfl md55 (by kernel_rfl)
theorem xo_5_42 : FnF TT 55 [.int .i64 5, .int .i64 42] (.tup [.lst 5 (ints (ordA 5 42)), .bool true]) := FnF_exec 5000 fn55 rfl md55 (by kernel_rfl)
theorem xo_5_43 : FnF TT 55 [.int .i64 5, .int .i64 43] (.tup [.lst 5 (ints (ordA 5 43)), .bool true]) := FnF_exec 5000 fn55 rfl md55 (by kernel_rfl)
theorem xo_5_44 : FnF TT 55 [.int .i64 5, .int .i64 44] (.tup [.lst 5 (ints (ordA 5 44)), .bool true]) := FnF_exec 5000 fn55 rfl md55 (by kernel_rfl)
theorem xo_5_45 : FnF TT 55 [.int .i64 5, .int .i64 45] (.tup [.lst 5 (ints (ordA 5 45)), .bool true]) := FnF_exec 5000 fn55 rfl md55 (by kernel_rfl)
theorem xo_5_46 : FnF TT 55 [.int .i64 5, .int .i64 46] (.tup [.lst 5 (ints (ordA 5 46)), .bool true]) := FnF_exec 5000 fn55 rfl md55 (by kernel_rfl)
theorem xo_5_47 : FnF TT 55 [.int .i64 5, .int .i64 47] (.tup [.lst 5 (ints (ordA 5 47)), .bool true]) := FnF_exec 5000 fn55 rfl md55 (by kernel_rfl)
theorem xo_5_48 : FnF TT 55 [.int .i64 5, .int .i64 48] (.tup [.lst 5 (ints (ordA 5 48)), .bool true]) := FnF_exec 5000 fn55 rfl md55 (by kernel_rfl)
theorem xo_5_49 : FnF TT 55 [.int .i64 5, .int .i64 49] (.tup [.lst 5 (ints (ordA 5 49)), .bool true]) := FnF_exec 5000 fn55 rfl md55 (by kernel_rfl)
theorem xo_5_50 : FnF TT 55 [.int .i64 5, .int .i64 50] (.tup [.lst 5 (ints (ordA 5 50)), .bool true]) := FnF_exec 5000 fn55 rfl md55 (by kernel_rfl)
theorem xo_5_51 : FnF TT 55 [.int .i64 5, .int .i64 51] (.tup [.lst 5 (ints (ordA 5 51)), .bool true]) := FnF_exec 5000 fn55 rfl md55 (by kernel_rfl)
theorem xo_5_52 : FnF TT 55 [.int .i64 5, .int .i64 52] (.tup [.lst 5 (ints (ordA 5 52)), .bool true]) := FnF_exec 5000 fn55 rfl md55 (by kernel_rfl)
theorem xo_5_53 : FnF TT 55 [.int .i64 5, .int .i64 53] (.tup [.lst 5 (ints (ordA 5 53)), .bool true]) := FnF_exec 5000 fn55 rfl md55 (by kernel_rfl)
theorem xo_5_54 : FnF TT 55 [.int .i64 5, .int .i64 54] (.tup [.lst 5 (ints (ordA 5 54)), .bool true]) := FnF_exec 5000 fn55 rfl md55 (by kernel_rfl)
theorem xo_5_55 : FnF TT 55 [.int .i64 5, .int .i64 55] (.tup [.lst 5 (ints (ordA 5 55)), .bool true]) := FnF_exec 5000 fn55 rfl md55 (by kernel_rfl)
theorem xo_5_56 : FnF TT 55 [.int .i64 5, .int .i64 56] (.tup [.lst 5 (ints (ordA 5 56)), .bool true]) := FnF_exec 5000 fn55 rfl md55 (by kernel_rfl)
theorem xo_5_57 : FnF TT 55 [.int .i64 5, .int .i64 57] (.tup [.lst 5 (ints (ordA 5 57)), .bool true]) := FnF_exec 5000 fn55 rfl md55 (by kernel_rfl)
theorem xo_5_58 : FnF TT 55 [.int .i64 5, .int .i64 58] (.tup [.lst 5 (ints (ordA 5 58)), .bool true]) := FnF_exec 5000 fn55 rfl md55 (by kernel_rfl)
theorem xo_5_59 : FnF TT 55 [.int .i64 5, .int .i64 59] (.tup [.lst 5 (ints (ordA 5 59)), .bool true]) := FnF_exec 5000 fn55 rfl md55 (by kernel_rfl)
theorem xo_5_60 : FnF TT 55 [.int .i64 5, .int .i64 60] (.tup [.lst 5 (ints (ordA 5 60)), .bool true]) := FnF_exec 5000 fn55 rfl md55 (by kernel_rfl)
theorem xo_5_61 : FnF TT 55 [.int .i64 5, .int .i64 61] (.tup [.lst 5 (ints (ordA 5 61)), .bool true]) := FnF_exec 5000 fn55 rfl md55 (by kernel_rfl)
theorem xo_5_62 : FnF TT 55 [.int .i64 5, .int .i64 62] (.tup [.lst 5 (ints (ordA 5 62)), .bool true]) := FnF_exec 5000 fn55 rfl md55 (by kernel_rfl)
theorem xo_5_63 : FnF TT 55 [.int .i64 5, .int .i64 63] (.tup [.lst 5 (ints (ordA 5 63)), .bool true]) := FnF_exec 5000 fn55 rfl md55 (by kernel_rfl)
theorem xo_5_64 : FnF TT 55 [.int .i64 5, .int .i64 64] (.tup [.lst 5 (ints (ordA 5 64)), .bool true]) := FnF_exec 5000 fn55 rfl md55 (by kernel_rfl)
theorem xo_5_65 : FnF TT 55 [.int .i64 5, .int .i64 65] (.tup [.lst 5 (ints (ordA 5 65)), .bool true]) := FnF_exec 5000 fn55 rfl md55 (by kernel_rfl)
theorem xo_5_66 : FnF TT 55 [.int .i64 5, .int .i64 66] (.tup [.lst 5 (ints (ordA 5 66)), .bool true]) := FnF_exec 5000 fn55 rfl md55 (by kernel_rfl)
theorem xo_5_67 : FnF TT 55 [.int .i64 5, .int .i64 67] (.tup [.lst 5 (ints (ordA 5 67)), .bool true]) := FnF_exec 5000 fn55 rfl md55 (by kernel_rfl)
theorem xo_5_68 : FnF TT 55 [.int .i64 5, .int .i64 68] (.tup [.lst 5 (ints (ordA 5 68)), .bool true]) := FnF_exec 5000 fn55 rfl md55 (by kernel_rfl)
theorem xo_5_69 : FnF TT 55 [.int .i64 5, .int .i64 69] (.tup [.lst 5 (ints (ordA 5 69)), .bool true]) := FnF_exec 5000 fn55 rfl md55 (by kernel_rfl)
theorem xo_5_70 : FnF TT 55 [.int .i64 5, .int .i64 70] (.tup [.lst 5 (ints (ordA 5 70)), .bool true]) := FnF_exec 5000 fn55 rfl md55 (by kernel_rfl)
theorem xo_5_71 : FnF TT 55 [.int .i64 5, .int .i64 71] (.tup [.lst 5 (ints (ordA 5 71)), .bool true]) := FnF_exec 5000 fn55 rfl md55 (by kernel_rfl)
theorem xo_5_72 : FnF TT 55 [.int .i64 5, .int .i64 72] (.tup [.lst 5 (ints (ordA 5 72)), .bool true]) := FnF_exec 5000 fn55 rfl md55 (by kernel_rfl)
theorem xo_5_73 : FnF TT 55 [.int .i64 5, .int .i64 73] (.tup [.lst 5 (ints (ordA 5 73)), .bool true]) := FnF_exec 5000 fn55 rfl md55 (by kernel_rfl)
theorem xo_5_74 : FnF TT 55 [.int .i64 5, .int .i64 74] (.tup [.lst 5 (ints (ordA 5 74)), .bool true]) := FnF_exec 5000 fn55 rfl md55 (by kernel_rfl)
theorem xo_5_75 : FnF TT 55 [.int .i64 5, .int .i64 75] (.tup [.lst 5 (ints (ordA 5 75)), .bool true]) := FnF_exec 5000 fn55 rfl md55 (by kernel_rfl)
theorem xo_5_76 : FnF TT 55 [.int .i64 5, .int .i64 76] (.tup [.lst 5 (ints (ordA 5 76)), .bool true]) := FnF_exec 5000 fn55 rfl md55 (by kernel_rfl)
theorem xo_5_77 : FnF TT 55 [.int .i64 5, .int .i64 77] (.tup [.lst 5 (ints (ordA 5 77)), .bool true]) := FnF_exec 5000 fn55 rfl md55 (by kernel_rfl)
theorem xo_5_78 : FnF TT 55 [.int .i64 5, .int .i64 78] (.tup [.lst 5 (ints (ordA 5 78)), .bool true]) := FnF_exec 5000 fn55 rfl md55 (by kernel_rfl)
theorem xo_5_79 : FnF TT 55 [.int .i64 5, .int .i64 79] (.tup [.lst 5 (ints (ordA 5 79)), .bool true]) := FnF_exec 5000 fn55 rfl md55 (by kernel_rfl)
theorem xo_5_80 : FnF TT 55 [.int .i64 5, .int .i64 80] (.tup [.lst 5 (ints (ordA 5 80)), .bool true]) := FnF_exec 5000 fn55 rfl md55 (by kernel_rfl)
theorem xo_5_81 : FnF TT 55 [.int .i64 5, .int .i64 81] (.tup [.lst 5 (ints (ordA 5 81)), .bool true]) := FnF_exec 5000 fn55 rfl md55 (by kernel_rfl)
theorem xo_5_82 : FnF TT 55 [.int .i64 5, .int .i64 82] (.tup [.lst 5 (ints (ordA 5 82)), .bool true]) := FnF_exec 5000 fn55 rfl md55 (by kernel_rfl)
theorem xo_5_83 : FnF TT 55 [.int .i64 5, .int .i64 83] (.tup [.lst 5 (ints (ordA 5 83)), .bool true]) := FnF_exec 5000 fn55 rfl md55 (by kernel_rfl)
theorem xo_5_84 : FnF TT 55 [.int .i64 5, .int .i64 84] (.tup [.lst 5 (ints (ordA 5 84)), .bool true]) := FnF_exec 5000 fn55 rfl md55 (by kernel_rfl)
theorem xo_5_85 : FnF TT 55 [.int .i64 5, .int .i64 85] (.tup [.lst 5 (ints (ordA 5 85)), .bool true]) := FnF_exec 5000 fn55 rfl md55 (by kernel_rfl)
theorem xo_5_86 : FnF TT 55 [.int .i64 5, .int .i64 86] (.tup [.lst 5 (ints (ordA 5 86)), .bool true]) := FnF_exec 5000 fn55 rfl md55 (by kernel_rfl)
theorem xo_5_87 : FnF TT 55 [.int .i64 5, .int .i64 87] (.tup [.lst 5 (ints (ordA 5 87)), .bool true]) := FnF_exec 5000 fn55 rfl md55 (by kernel_rfl)
theorem xo_5_88 : FnF TT 55 [.int .i64 5, .int .i64 88] (.tup [.lst 5 (ints (ordA 5 88)), .bool true]) := FnF_exec 5000 fn55 rfl md55 (by kernel_rfl)
theorem xo_5_89 : FnF TT 55 [.int .i64 5, .int .i64 89] (.tup [.lst 5 (ints (ordA 5 89)), .bool true]) := FnF_exec 5000 fn55 rfl md55 (by kernel_rfl)
theorem xo_5_90 : FnF TT 55 [.int .i64 5, .int .i64 90] (.tup [.lst 5 (ints (ordA 5 90)), .bool true]) := FnF_exec 5000 fn55 rfl md55 (by kernel_rfl)
theorem xo_5_91 : FnF TT 55 [.int .i64 5, .int .i64 91] (.tup [.lst 5 (ints (ordA 5 91)), .bool true]) := FnF_exec 5000 fn55 rfl md55 (by kernel_rfl)
theorem xo_5_92 : FnF TT 55 [.int .i64 5, .int .i64 92] (.tup [.lst 5 (ints (ordA 5 92)), .bool true]) := FnF_exec 5000 fn55 rfl md55 (by kernel_rfl)
theorem xo_5_93 : FnF TT 55 [.int .i64 5, .int .i64 93] (.tup [.lst 5 (ints (ordA 5 93)), .bool true]) := FnF_exec 5000 fn55 rfl md55 (by kernel_rfl)
theorem xo_5_94 : FnF TT 55 [.int .i64 5, .int .i64 94] (.tup [.lst 5 (ints (ordA 5 94)), .bool true]) := FnF_exec 5000 fn55 rfl md55 (by kernel_rfl)
theorem xo_5_95 : FnF TT 55 [.int .i64 5, .int .i64 95] (.tup [.lst 5 (ints (ordA 5 95)), .bool true]) := FnF_exec 5000 fn55 rfl md55 (by kernel_rfl)
theorem xo_5_96 : FnF TT 55 [.int .i64 5, .int .i64 96] (.tup [.lst 5 (ints (ordA 5 96)), .bool true]) := FnF_exec 5000 fn55 rfl md55 (by kernel_rfl)
theorem xo_5_97 : FnF TT 55 [.int .i64 5, .int .i64 97] (.tup [.lst 5 (ints (ordA 5 97)), .bool true]) := FnF_exec 5000 fn55 rfl md55 (by kernel_rfl)
theorem xo_5_98 : FnF TT 55 [.int .i64 5, .int .i64 98] (.tup [.lst 5 (ints (ordA 5 98)), .bool true]) := FnF_exec 5000 fn55 rfl md55 (by kernel_rfl)
theorem xo_5_99 : FnF TT 55 [.int .i64 5, .int .i64 99] (.tup [.lst 5 (ints (ordA 5 99)), .bool true]) := FnF_exec 5000 fn55 rfl md55 (by kernel_rfl)
theorem xo_5_100 : FnF TT 55 [.int .i64 5, .int .i64 100] (.tup [.lst 5 (ints (ordA 5 100)), .bool true]) := FnF_exec 5000 fn55 rfl md55 (by kernel_rfl)
theorem xo_5_101 : FnF TT 55 [.int .i64 5, .int .i64 101] (.tup [.lst 5 (ints (ordA 5 101)), .bool true]) := FnF_exec 5000 fn55 rfl md55 (by kernel_rfl)
theorem xo_5_102 : FnF TT 55 [.int .i64 5, .int .i64 102] (.tup [.lst 5 (ints (ordA 5 102)), .bool true]) := FnF_exec 5000 fn55 rfl md55 (by kernel_rfl)
theorem xo_5_103 : FnF TT 55 [.int .i64 5, .int .i64 103] (.tup [.lst 5 (ints (ordA 5 103)), .bool true]) := FnF_exec 5000 fn55 rfl md55 (by kernel_rfl)
theorem xo_5_104 : FnF TT 55 [.int .i64 5, .int .i64 104] (.tup [.lst 5 (ints (ordA 5 104)), .bool true]) := FnF_exec 5000 fn55 rfl md55 (by kernel_rfl)
theorem xo_5_105 : FnF TT 55 [.int .i64 5, .int .i64 105] (.tup [.lst 5 (ints (ordA 5 105)), .bool true]) := FnF_exec 5000 fn55 rfl md55 (by kernel_rfl)
theorem xo_5_106 : FnF TT 55 [.int .i64 5, .int .i64 106] (.tup [.lst 5 (ints (ordA 5 106)), .bool true]) := FnF_exec 5000 fn55 rfl md55 (by kernel_rfl)
theorem xo_5_107 : FnF TT 55 [.int .i64 5, .int .i64 107] (.tup [.lst 5 (ints (ordA 5 107)), .bool true]) := FnF_exec 5000 fn55 rfl md55 (by kernel_rfl)
theorem xo_5_108 : FnF TT 55 [.int .i64 5, .int .i64 108] (.tup [.lst 5 (ints (ordA 5 108)), .bool true]) := FnF_exec 5000 fn55 rfl md55 (by kernel_rfl)
theorem xo_5_109 : FnF TT 55 [.int .i64 5, .int .i64 109] (.tup [.lst 5 (ints (ordA 5 109)), .bool true]) := FnF_exec 5000 fn55 rfl md55 (by kernel_rfl)
theorem xo_5_110 : FnF TT 55 [.int .i64 5, .int .i64 110] (.tup [.lst 5 (ints (ordA 5 110)), .bool true]) := FnF_exec 5000 fn55 rfl md55 (by kernel_rfl)
theorem xo_5_111 : FnF TT 55 [.int .i64 5, .int .i64 111] (.tup [.lst 5 (ints (ordA 5 111)), .bool true]) := FnF_exec 5000 fn55 rfl md55 (by kernel_rfl)
theorem xo_5_112 : FnF TT 55 [.int .i64 5, .int .i64 112] (.tup [.lst 5 (ints (ordA 5 112)), .bool true]) := FnF_exec 5000 fn55 rfl md55 (by kernel_rfl)
theorem xo_5_113 : FnF TT 55 [.int .i64 5, .int .i64 113] (.tup [.lst 5 (ints (ordA 5 113)), .bool true]) := FnF_exec 5000 fn55 rfl md55 (by kernel_rfl)
theorem xo_5_114 : FnF TT 55 [.int .i64 5, .int .i64 114] (.tup [.lst 5 (ints (ordA 5 114)), .bool true]) := FnF_exec 5000 fn55 rfl md55 (by kernel_rfl)
theorem xo_5_115 : FnF TT 55 [.int .i64 5, .int .i64 115] (.tup [.lst 5 (ints (ordA 5 115)), .bool true]) := FnF_exec 5000 fn55 rfl md55 (by kernel_rfl)
theorem xo_5_116 : FnF TT 55 [.int .i64 5, .int .i64 116] (.tup [.lst 5 (ints (ordA 5 116)), .bool true]) := FnF_exec 5000 fn55 rfl md55 (by kernel_rfl)
theorem xo_5_117 : FnF TT 55 [.int .i64 5, .int .i64 117] (.tup [.lst 5 (ints (ordA 5 117)), .bool true]) := FnF_exec 5000 fn55 rfl md55 (by kernel_rfl)
theorem xo_5_118 : FnF TT 55 [.int .i64 5, .int .i64 118] (.tup [.lst 5 (ints (ordA 5 118)), .bool true]) := FnF_exec 5000 fn55 rfl md55 (by kernel_rfl)
theorem xo_5_119 : FnF TT 55 [.int .i64 5, .int .i64 119] (.tup [.lst 5 (ints (ordA 5 119)), .bool true]) := FnF_exec 5000 fn55 rfl md55 (by kernel_rfl)
theorem rf54 : ∀ n : Nat, 1 ≤ n → n ≤ 5 → FnV TT 54 [.int .i64 n] (.int .i64 (facN n : Nat)) := n5 xf_1 xf_2 xf_3 xf_4 xf_5
theorem lt_cases {P : Nat → Prop} : ∀ (N : Nat), (∀ i, i < N → P i) → P N → ∀ i, i < N + 1 → P i := fun N h hN i hi => by
  rcases Nat.lt_or_ge i N with h1 | h1
  · exact h i h1
  · have : i = N := by omega
    subst this; exact hN
theorem yo_1_0 : ∀ i : Nat, i < 0 → FnF TT 55 [.int .i64 1, .int .i64 i] (.tup [.lst 1 (ints (ordA 1 i)), .bool true]) := fun i h => absurd h (Nat.not_lt_zero i)
theorem yo_1_1 : ∀ i : Nat, i < 1 → FnF TT 55 [.int .i64 1, .int .i64 i] (.tup [.lst 1 (ints (ordA 1 i)), .bool true]) := lt_cases (P := fun i : Nat => FnF TT 55 [.int .i64 1, .int .i64 i] (.tup [.lst 1 (ints (ordA 1 i)), .bool true])) 0 yo_1_0 xo_1_0
theorem yo_2_0 : ∀ i : Nat, i < 0 → FnF TT 55 [.int .i64 2, .int .i64 i] (.tup [.lst 2 (ints (ordA 2 i)), .bool true]) := fun i h => absurd h (Nat.not_lt_zero i)
theorem yo_2_1 : ∀ i : Nat, i < 1 → FnF TT 55 [.int .i64 2, .int .i64 i] (.tup [.lst 2 (ints (ordA 2 i)), .bool true]) := lt_cases (P := fun i : Nat => FnF TT 55 [.int .i64 2, .int .i64 i] (.tup [.lst 2 (ints (ordA 2 i)), .bool true])) 0 yo_2_0 xo_2_0
theorem yo_2_2 : ∀ i : Nat, i < 2 → FnF TT 55 [.int .i64 2, .int .i64 i] (.tup [.lst 2 (ints (ordA 2 i)), .bool true]) := lt_cases (P := fun i : Nat => FnF TT 55 [.int .i64 2, .int .i64 i] (.tup [.lst 2 (ints (ordA 2 i)), .bool true])) 1 yo_2_1 xo_2_1
theorem yo_3_0 : ∀ i : Nat, i < 0 → FnF TT 55 [.int .i64 3, .int .i64 i] (.tup [.lst 3 (ints (ordA 3 i)), .bool true]) := fun i h => absurd h (Nat.not_lt_zero i)
theorem yo_3_1 : ∀ i : Nat, i < 1 → FnF TT 55 [.int .i64 3, .int .i64 i] (.tup [.lst 3 (ints (ordA 3 i)), .bool true]) := lt_cases (P := fun i : Nat => FnF TT 55 [.int .i64 3, .int .i64 i] (.tup [.lst 3 (ints (ordA 3 i)), .bool true])) 0 yo_3_0 xo_3_0
theorem yo_3_2 : ∀ i : Nat, i < 2 → FnF TT 55 [.int .i64 3, .int .i64 i] (.tup [.lst 3 (ints (ordA 3 i)), .bool true]) := lt_cases (P := fun i : Nat => FnF TT 55 [.int .i64 3, .int .i64 i] (.tup [.lst 3 (ints (ordA 3 i)), .bool true])) 1 yo_3_1 xo_3_1
theorem yo_3_3 : ∀ i : Nat, i < 3 → FnF TT 55 [.int .i64 3, .int .i64 i] (.tup [.lst 3 (ints (ordA 3 i)), .bool true]) := lt_cases (P := fun i : Nat => FnF TT 55 [.int .i64 3, .int .i64 i] (.tup [.lst 3 (ints (ordA 3 i)), .bool true])) 2 yo_3_2 xo_3_2
theorem yo_3_4 : ∀ i : Nat, i < 4 → FnF TT 55 [.int .i64 3, .int .i64 i] (.tup [.lst 3 (ints (ordA 3 i)), .bool true]) := lt_cases (P := fun i : Nat => FnF TT 55 [.int .i64 3, .int .i64 i] (.tup [.lst 3 (ints (ordA 3 i)), .bool true])) 3 yo_3_3 xo_3_3
theorem yo_3_5 : ∀ i : Nat, i < 5 → FnF TT 55 [.int .i64 3, .int .i64 i] (.tup [.lst 3 (ints (ordA 3 i)), .bool true]) := lt_cases (P := fun i : Nat => FnF TT 55 [.int .i64 3, .int .i64 i] (.tup [.lst 3 (ints (ordA 3 i)), .bool true])) 4 yo_3_4 xo_3_4
theorem yo_3_6 : ∀ i : Nat, i < 6 → FnF TT 55 [.int .i64 3, .int .i64 i] (.tup [.lst 3 (ints (ordA 3 i)), .bool true]) := lt_cases (P := fun i : Nat => FnF TT 55 [.int .i64 3, .int .i64 i] (.tup [.lst 3 (ints (ordA 3 i)), .bool true])) 5 yo_3_5 xo_3_5
theorem yo_4_0 : ∀ i : Nat, i < 0 → FnF TT 55 [.int .i64 4, .int .i64 i] (.tup [.lst 4 (ints (ordA 4 i)), .bool true]) := fun i h => absurd h (Nat.not_lt_zero i)
theorem yo_4_1 : ∀ i : Nat, i < 1 → FnF TT 55 [.int .i64 4, .int .i64 i] (.tup [.lst 4 (ints (ordA 4 i)), .bool true]) := lt_cases (P := fun i : Nat => FnF TT 55 [.int .i64 4, .int .i64 i] (.tup [.lst 4 (ints (ordA 4 i)), .bool true])) 0 yo_4_0 xo_4_0
theorem yo_4_2 : ∀ i : Nat, i < 2 → FnF TT 55 [.int .i64 4, .int .i64 i] (.tup [.lst 4 (ints (ordA 4 i)), .bool true]) := lt_cases (P := fun i : Nat => FnF TT 55 [.int .i64 4, .int .i64 i] (.tup [.lst 4 (ints (ordA 4 i)), .bool true])) 1 yo_4_1 xo_4_1
theorem yo_4_3 : ∀ i : Nat, i < 3 → FnF TT 55 [.int .i64 4, .int .i64 i] (.tup [.lst 4 (ints (ordA 4 i)), .bool true]) := lt_cases (P := fun i : Nat => FnF TT 55 [.int .i64 4, .int .i64 i] (.tup [.lst 4 (ints (ordA 4 i)), .bool true])) 2 yo_4_2 xo_4_2
theorem yo_4_4 : ∀ i : Nat, i < 4 → FnF TT 55 [.int .i64 4, .int .i64 i] (.tup [.lst 4 (ints (ordA 4 i)), .bool true]) := lt_cases (P := fun i : Nat => FnF TT 55 [.int .i64 4, .int .i64 i] (.tup [.lst 4 (ints (ordA 4 i)), .bool true])) 3 yo_4_3 xo_4_3
theorem yo_4_5 : ∀ i : Nat, i < 5 → FnF TT 55 [.int .i64 4, .int .i64 i] (.tup [.lst 4 (ints (ordA 4 i)), .bool true]) := lt_cases (P := fun i : Nat => FnF TT 55 [.int .i64 4, .int .i64 i] (.tup [.lst 4 (ints (ordA 4 i)), .bool true])) 4 yo_4_4 xo_4_4
theorem yo_4_6 : ∀ i : Nat, i < 6 → FnF TT 55 [.int .i64 4, .int .i64 i] (.tup [.lst 4 (ints (ordA 4 i)), .bool true]) := lt_cases (P := fun i : Nat => FnF TT 55 [.int .i64 4, .int .i64 i] (.tup [.lst 4 (ints (ordA 4 i)), .bool true])) 5 yo_4_5 xo_4_5
theorem yo_4_7 : ∀ i : Nat, i < 7 → FnF TT 55 [.int .i64 4, .int .i64 i] (.tup [.lst 4 (ints (ordA 4 i)), .bool true]) := lt_cases (P := fun i : Nat => FnF TT 55 [.int .i64 4, .int .i64 i] (.tup [.lst 4 (ints (ordA 4 i)), .bool true])) 6 yo_4_6 xo_4_6
theorem yo_4_8 : ∀ i : Nat, i < 8 → FnF TT 55 [.int .i64 4, .int .i64 i] (.tup [.lst 4 (ints (ordA 4 i)), .bool true]) := lt_cases (P := fun i : Nat => FnF TT 55 [.int .i64 4, .int .i64 i] (.tup [.lst 4 (ints (ordA 4 i)), .bool true])) 7 yo_4_7 xo_4_7
theorem yo_4_9 : ∀ i : Nat, i < 9 → FnF TT 55 [.int .i64 4, .int .i64 i] (.tup [.lst 4 (ints (ordA 4 i)), .bool true]) := lt_cases (P := fun i : Nat => FnF TT 55 [.int .i64 4, .int .i64 i] (.tup [.lst 4 (ints (ordA 4 i)), .bool true])) 8 yo_4_8 xo_4_8
theorem yo_4_10 : ∀ i : Nat, i < 10 → FnF TT 55 [.int .i64 4, .int .i64 i] (.tup [.lst 4 (ints (ordA 4 i)), .bool true]) := lt_cases (P := fun i : Nat => FnF TT 55 [.int .i64 4, .int .i64 i] (.tup [.lst 4 (ints (ordA 4 i)), .bool true])) 9 yo_4_9 xo_4_9
theorem yo_4_11 : ∀ i : Nat, i < 11 → FnF TT 55 [.int .i64 4, .int .i64 i] (.tup [.lst 4 (ints (ordA 4 i)), .bool true]) := lt_cases (P := fun i : Nat => FnF TT 55 [.int .i64 4, .int .i64 i] (.tup [.lst 4 (ints (ordA 4 i)), .bool true])) 10 yo_4_10 xo_4_10
theorem yo_4_12 : ∀ i : Nat, i < 12 → FnF TT 55 [.int .i64 4, .int .i64 i] (.tup [.lst 4 (ints (ordA 4 i)), .bool true]) := lt_cases (P := fun i : Nat => FnF TT 55 [.int .i64 4, .int .i64 i] (.tup [.lst 4 (ints (ordA 4 i)), .bool true])) 11 yo_4_11 xo_4_11
theorem yo_4_13 : ∀ i : Nat, i < 13 → FnF TT 55 [.int .i64 4, .int .i64 i] (.tup [.lst 4 (ints (ordA 4 i)), .bool true]) := lt_cases (P := fun i : Nat => FnF TT 55 [.int .i64 4, .int .i64 i] (.tup [.lst 4 (ints (ordA 4 i)), .bool true])) 12 yo_4_12 xo_4_12
theorem yo_4_14 : ∀ i : Nat, i < 14 → FnF TT 55 [.int .i64 4, .int .i64 i] (.tup [.lst 4 (ints (ordA 4 i)), .bool true]) := lt_cases (P := fun i : Nat => FnF TT 55 [.int .i64 4, .int .i64 i] (.tup [.lst 4 (ints (ordA 4 i)), .bool true])) 13 yo_4_13 xo_4_13
theorem yo_4_15 : ∀ i : Nat, i < 15 → FnF TT 55 [.int .i64 4, .int .i64 i] (.tup [.lst 4 (ints (ordA 4 i)), .bool true]) := lt_cases (P := fun i : Nat => FnF TT 55 [.int .i64 4, .int .i64 i] (.tup [.lst 4 (ints (ordA 4 i)), .bool true])) 14 yo_4_14 xo_4_14
theorem yo_4_16 : ∀ i : Nat, i < 16 → FnF TT 55 [.int .i64 4, .int .i64 i] (.tup [.lst 4 (ints (ordA 4 i)), .bool true]) := lt_cases (P := fun i : Nat => FnF TT 55 [.int .i64 4, .int .i64 i] (.tup [.lst 4 (ints (ordA 4 i)), .bool true])) 15 yo_4_15 xo_4_15
theorem yo_4_17 : ∀ i : Nat, i < 17 → FnF TT 55 [.int .i64 4, .int .i64 i] (.tup [.lst 4 (ints (ordA 4 i)), .bool true]) := lt_cases (P := fun i : Nat => FnF TT 55 [.int .i64 4, .int .i64 i] (.tup [.lst 4 (ints (ordA 4 i)), .bool true])) 16 yo_4_16 xo_4_16
theorem yo_4_18 : ∀ i : Nat, i < 18 → FnF TT 55 [.int .i64 4, .int .i64 i] (.tup [.lst 4 (ints (ordA 4 i)), .bool true]) := lt_cases (P := fun i : Nat => FnF TT 55 [.int .i64 4, .int .i64 i] (.tup [.lst 4 (ints (ordA 4 i)), .bool true])) 17 yo_4_17 xo_4_17
theorem yo_4_19 : ∀ i : Nat, i < 19 → FnF TT 55 [.int .i64 4, .int .i64 i] (.tup [.lst 4 (ints (ordA 4 i)), .bool true]) := lt_cases (P := fun i : Nat => FnF TT 55 [.int .i64 4, .int .i64 i] (.tup [.lst 4 (ints (ordA 4 i)), .bool true])) 18 yo_4_18 xo_4_18
theorem yo_4_20 : ∀ i : Nat, i < 20 → FnF TT 55 [.int .i64 4, .int .i64 i] (.tup [.lst 4 (ints (ordA 4 i)), .bool true]) := lt_cases (P := fun i : Nat => FnF TT 55 [.int .i64 4, .int .i64 i] (.tup [.lst 4 (ints (ordA 4 i)), .bool true])) 19 yo_4_19 xo_4_19
theorem yo_4_21 : ∀ i : Nat, i < 21 → FnF TT 55 [.int .i64 4, .int .i64 i] (.tup [.lst 4 (ints (ordA 4 i)), .bool true]) := lt_cases (P := fun i : Nat => FnF TT 55 [.int .i64 4, .int .i64 i] (.tup [.lst 4 (ints (ordA 4 i)), .bool true])) 20 yo_4_20 xo_4_20
theorem yo_4_22 : ∀ i : Nat, i < 22 → FnF TT 55 [.int .i64 4, .int .i64 i] (.tup [.lst 4 (ints (ordA 4 i)), .bool true]) := lt_cases (P := fun i : Nat => FnF TT 55 [.int .i64 4, .int .i64 i] (.tup [.lst 4 (ints (ordA 4 i)), .bool true])) 21 yo_4_21 xo_4_21
theorem yo_4_23 : ∀ i : Nat, i < 23 → FnF TT 55 [.int .i64 4, .int .i64 i] (.tup [.lst 4 (ints (ordA 4 i)), .bool true]) := lt_cases (P := fun i : Nat => FnF TT 55 [.int .i64 4, .int .i64 i] (.tup [.lst 4 (ints (ordA 4 i)), .bool true])) 22 yo_4_22 xo_4_22
theorem yo_4_24 : ∀ i : Nat, i < 24 → FnF TT 55 [.int .i64 4, .int .i64 i] (.tup [.lst 4 (ints (ordA 4 i)), .bool true]) := lt_cases (P := fun i : Nat => FnF TT 55 [.int .i64 4, .int .i64 i] (.tup [.lst 4 (ints (ordA 4 i)), .bool true])) 23 yo_4_23 xo_4_23
theorem yo_5_0 : ∀ i : Nat, i < 0 → FnF TT 55 [.int .i64 5, .int .i64 i] (.tup [.lst 5 (ints (ordA 5 i)), .bool true]) := fun i h => absurd h (Nat.not_lt_zero i)
theorem yo_5_1 : ∀ i : Nat, i < 1 → FnF TT 55 [.int .i64 5, .int .i64 i] (.tup [.lst 5 (ints (ordA 5 i)), .bool true]) := lt_cases (P := fun i : Nat => FnF TT 55 [.int .i64 5, .int .i64 i] (.tup [.lst 5 (ints (ordA 5 i)), .bool true])) 0 yo_5_0 xo_5_0
theorem yo_5_2 : ∀ i : Nat, i < 2 → FnF TT 55 [.int .i64 5, .int .i64 i] (.tup [.lst 5 (ints (ordA 5 i)), .bool true]) := lt_cases (P := fun i : Nat => FnF TT 55 [.int .i64 5, .int .i64 i] (.tup [.lst 5 (ints (ordA 5 i)), .bool true])) 1 yo_5_1 xo_5_1
theorem yo_5_3 : ∀ i : Nat, i < 3 → FnF TT 55 [.int .i64 5, .int .i64 i] (.tup [.lst 5 (ints (ordA 5 i)), .bool true]) := lt_cases (P := fun i : Nat => FnF TT 55 [.int .i64 5, .int .i64 i] (.tup [.lst 5 (ints (ordA 5 i)), .bool true])) 2 yo_5_2 xo_5_2
theorem yo_5_4 : ∀ i : Nat, i < 4 → FnF TT 55 [.int .i64 5, .int .i64 i] (.tup [.lst 5 (ints (ordA 5 i)), .bool true]) := lt_cases (P := fun i : Nat => FnF TT 55 [.int .i64 5, .int .i64 i] (.tup [.lst 5 (ints (ordA 5 i)), .bool true])) 3 yo_5_3 xo_5_3
theorem yo_5_5 : ∀ i : Nat, i < 5 → FnF TT 55 [.int .i64 5, .int .i64 i] (.tup [.lst 5 (ints (ordA 5 i)), .bool true]) := lt_cases (P := fun i : Nat => FnF TT 55 [.int .i64 5, .int .i64 i] (.tup [.lst 5 (ints (ordA 5 i)), .bool true])) 4 yo_5_4 xo_5_4
theorem yo_5_6 : ∀ i : Nat, i < 6 → FnF TT 55 [.int .i64 5, .int .i64 i] (.tup [.lst 5 (ints (ordA 5 i)), .bool true]) := lt_cases (P := fun i : Nat => FnF TT 55 [.int .i64 5, .int .i64 i] (.tup [.lst 5 (ints (ordA 5 i)), .bool true])) 5 yo_5_5 xo_5_5
theorem yo_5_7 : ∀ i : Nat, i < 7 → FnF TT 55 [.int .i64 5, .int .i64 i] (.tup [.lst 5 (ints (ordA 5 i)), .bool true]) := lt_cases (P := fun i : Nat => FnF TT 55 [.int .i64 5, .int .i64 i] (.tup [.lst 5 (ints (ordA 5 i)), .bool true])) 6 yo_5_6 xo_5_6
theorem yo_5_8 : ∀ i : Nat, i < 8 → FnF TT 55 [.int .i64 5, .int .i64 i] (.tup [.lst 5 (ints (ordA 5 i)), .bool true]) := lt_cases (P := fun i : Nat => FnF TT 55 [.int .i64 5, .int .i64 i] (.tup [.lst 5 (ints (ordA 5 i)), .bool true])) 7 yo_5_7 xo_5_7
theorem yo_5_9 : ∀ i : Nat, i < 9 → FnF TT 55 [.int .i64 5, .int .i64 i] (.tup [.lst 5 (ints (ordA 5 i)), .bool true]) := lt_cases (P := fun i : Nat => FnF TT 55 [.int .i64 5, .int .i64 i] (.tup [.lst 5 (ints (ordA 5 i)), .bool true])) 8 yo_5_8 xo_5_8
theorem yo_5_10 : ∀ i : Nat, i < 10 → FnF TT 55 [.int .i64 5, .int .i64 i] (.tup [.lst 5 (ints (ordA 5 i)), .bool true]) := lt_cases (P := fun i : Nat => FnF TT 55 [.int .i64 5, .int .i64 i] (.tup [.lst 5 (ints (ordA 5 i)), .bool true])) 9 yo_5_9 xo_5_9
theorem yo_5_11 : ∀ i : Nat, i < 11 → FnF TT 55 [.int .i64 5, .int .i64 i] (.tup [.lst 5 (ints (ordA 5 i)), .bool true]) := lt_cases (P := fun i : Nat => FnF TT 55 [.int .i64 5, .int .i64 i] (.tup [.lst 5 (ints (ordA 5 i)), .bool true])) 10 yo_5_10 xo_5_10
theorem yo_5_12 : ∀ i : Nat, i < 12 → FnF TT 55 [.int .i64 5, .int .i64 i] (.tup [.lst 5 (ints (ordA 5 i)), .bool true]) := lt_cases (P := fun i : Nat => FnF TT 55 [.int .i64 5, .int .i64 i] (.tup [.lst 5 (ints (ordA 5 i)), .bool true])) 11 yo_5_11 xo_5_11
theorem yo_5_13 : ∀ i : Nat, i < 13 → FnF TT 55 [.int .i64 5, .int .i64 i] (.tup [.lst 5 (ints (ordA 5 i)), .bool true]) := lt_cases (P := fun i : Nat => FnF TT 55 [.int .i64 5, .int .i64 i] (.tup [.lst 5 (ints (ordA 5 i)), .bool true])) 12 yo_5_12 xo_5_12
theorem yo_5_14 : ∀ i : Nat, i < 14 → FnF TT 55 [.int .i64 5, .int .i64 i] (.tup [.lst 5 (ints (ordA 5 i)), .bool true]) := lt_cases (P := fun i : Nat => FnF TT 55 [.int .i64 5, .int .i64 i] (.tup [.lst 5 (ints (ordA 5 i)), .bool true])) 13 yo_5_13 xo_5_13
theorem yo_5_15 : ∀ i : Nat, i < 15 → FnF TT 55 [.int .i64 5, .int .i64 i] (.tup [.lst 5 (ints (ordA 5 i)), .bool true]) := lt_cases (P := fun i : Nat => FnF TT 55 [.int .i64 5, .int .i64 i] (.tup [.lst 5 (ints (ordA 5 i)), .bool true])) 14 yo_5_14 xo_5_14
theorem yo_5_16 : ∀ i : Nat, i < 16 → FnF TT 55 [.int .i64 5, .int .i64 i] (.tup [.lst 5 (ints (ordA 5 i)), .bool true]) := lt_cases (P := fun i : Nat => FnF TT 55 [.int .i64 5, .int .i64 i] (.tup [.lst 5 (ints (ordA 5 i)), .bool true])) 15 yo_5_15 xo_5_15
theorem yo_5_17 : ∀ i : Nat, i < 17 → FnF TT 55 [.int .i64 5, .int .i64 i] (.tup [.lst 5 (ints (ordA 5 i)), .bool true]) := lt_cases (P := fun i : Nat => FnF TT 55 [.int .i64 5, .int .i64 i] (.tup [.lst 5 (ints (ordA 5 i)), .bool true])) 16 yo_5_16 xo_5_16
theorem yo_5_18 : ∀ i : Nat, i < 18 → FnF TT 55 [.int .i64 5, .int .i64 i] (.tup [.lst 5 (ints (ordA 5 i)), .bool true]) := lt_cases (P := fun i : Nat => FnF TT 55 [.int .i64 5, .int .i64 i] (.tup [.lst 5 (ints (ordA 5 i)), .bool true])) 17 yo_5_17 xo_5_17
theorem yo_5_19 : ∀ i : Nat, i < 19 → FnF TT 55 [.int .i64 5, .int .i64 i] (.tup [.lst 5 (ints (ordA 5 i)), .bool true]) := lt_cases (P := fun i : Nat => FnF TT 55 [.int .i64 5, .int .i64 i] (.tup [.lst 5 (ints (ordA 5 i)), .bool true])) 18 yo_5_18 xo_5_18
theorem yo_5_20 : ∀ i : Nat, i < 20 → FnF TT 55 [.int .i64 5, .int .i64 i] (.tup [.lst 5 (ints (ordA 5 i)), .bool true]) := lt_cases (P := fun i : Nat => FnF TT 55 [.int .i64 5, .int .i64 i] (.tup [.lst 5 (ints (ordA 5 i)), .bool true])) 19 yo_5_19 xo_5_19
theorem yo_5_21 : ∀ i : Nat, i < 21 → FnF TT 55 [.int .i64 5, .int .i64 i] (.tup [.lst 5 (ints (ordA 5 i)), .bool true]) := lt_cases (P := fun i : Nat => FnF TT 55 [.int .i64 5, .int .i64 i] (.tup [.lst 5 (ints (ordA 5 i)), .bool true])) 20 yo_5_20 xo_5_20
theorem yo_5_22 : ∀ i : Nat, i < 22 → FnF TT 55 [.int .i64 5, .int .i64 i] (.tup [.lst 5 (ints (ordA 5 i)), .bool true]) := lt_cases (P := fun i : Nat => FnF TT 55 [.int .i64 5, .int .i64 i] (.tup [.lst 5 (ints (ordA 5 i)), .bool true])) 21 yo_5_21 xo_5_21
theorem yo_5_23 : ∀ i : Nat, i < 23 → FnF TT 55 [.int .i64 5, .int .i64 i] (.tup [.lst 5 (ints (ordA 5 i)), .bool true]) := lt_cases (P := fun i : Nat => FnF TT 55 [.int .i64 5, .int .i64 i] (.tup [.lst 5 (ints (ordA 5 i)), .bool true])) 22 yo_5_22 xo_5_22
theorem yo_5_24 : ∀ i : Nat, i < 24 → FnF TT 55 [.int .i64 5, .int .i64 i] (.tup [.lst 5 (ints (ordA 5 i)), .bool true]) := lt_cases (P := fun i : Nat => FnF TT 55 [.int .i64 5, .int .i64 i] (.tup [.lst 5 (ints (ordA 5 i)), .bool true])) 23 yo_5_23 xo_5_23
theorem yo_5_25 : ∀ i : Nat, i < 25 → FnF TT 55 [.int .i64 5, .int .i64 i] (.tup [.lst 5 (ints (ordA 5 i)), .bool true]) := lt_cases (P := fun i : Nat => FnF TT 55 [.int .i64 5, .int .i64 i] (.tup [.lst 5 (ints (ordA 5 i)), .bool true])) 24 yo_5_24 xo_5_24
theorem yo_5_26 : ∀ i : Nat, i < 26 → FnF TT 55 [.int .i64 5, .int .i64 i] (.tup [.lst 5 (ints (ordA 5 i)), .bool true]) := lt_cases (P := fun i : Nat => FnF TT 55 [.int .i64 5, .int .i64 i] (.tup [.lst 5 (ints (ordA 5 i)), .bool true])) 25 yo_5_25 xo_5_25
theorem yo_5_27 : ∀ i : Nat, i < 27 → FnF TT 55 [.int .i64 5, .int .i64 i] (.tup [.lst 5 (ints (ordA 5 i)), .bool true]) := lt_cases (P := fun i : Nat => FnF TT 55 [.int .i64 5, .int .i64 i] (.tup [.lst 5 (ints (ordA 5 i)), .bool true])) 26 yo_5_26 xo_5_26
theorem yo_5_28 : ∀ i : Nat, i < 28 → FnF TT 55 [.int .i64 5, .int .i64 i] (.tup [.lst 5 (ints (ordA 5 i)), .bool true]) := lt_cases (P := fun i : Nat => FnF TT 55 [.int .i64 5, .int .i64 i] (.tup [.lst 5 (ints (ordA 5 i)), .bool true])) 27 yo_5_27 xo_5_27
theorem yo_5_29 : ∀ i : Nat, i < 29 → FnF TT 55 [.int .i64 5, .int .i64 i] (.tup [.lst 5 (ints (ordA 5 i)), .bool true]) := lt_cases (P := fun i : Nat => FnF TT 55 [.int .i64 5, .int .i64 i] (.tup [.lst 5 (ints (ordA 5 i)), .bool true])) 28 yo_5_28 xo_5_28
theorem yo_5_30 : ∀ i : Nat, i < 30 → FnF TT 55 [.int .i64 5, .int .i64 i] (.tup [.lst 5 (ints (ordA 5 i)), .bool true]) := lt_cases (P := fun i : Nat => FnF TT 55 [.int .i64 5, .int .i64 i] (.tup [.lst 5 (ints (ordA 5 i)), .bool true])) 29 yo_5_29 xo_5_29
theorem yo_5_31 : ∀ i : Nat, i < 31 → FnF TT 55 [.int .i64 5, .int .i64 i] (.tup [.lst 5 (ints (ordA 5 i)), .bool true]) := lt_cases (P := fun i : Nat => FnF TT 55 [.int .i64 5, .int .i64 i] (.tup [.lst 5 (ints (ordA 5 i)), .bool true])) 30 yo_5_30 xo_5_30
theorem yo_5_32 : ∀ i : Nat, i < 32 → FnF TT 55 [.int .i64 5, .int .i64 i] (.tup [.lst 5 (ints (ordA 5 i)), .bool true]) := lt_cases (P := fun i : Nat => FnF TT 55 [.int .i64 5, .int .i64 i] (.tup [.lst 5 (ints (ordA 5 i)), .bool true])) 31 yo_5_31 xo_5_31
theorem yo_5_33 : ∀ i : Nat, i < 33 → FnF TT 55 [.int .i64 5, .int .i64 i] (.tup [.lst 5 (ints (ordA 5 i)), .bool true]) := lt_cases (P := fun i : Nat => FnF TT 55 [.int .i64 5, .int .i64 i] (.tup [.lst 5 (ints (ordA 5 i)), .bool true])) 32 yo_5_32 xo_5_32
theorem yo_5_34 : ∀ i : Nat, i < 34 → FnF TT 55 [.int .i64 5, .int .i64 i] (.tup [.lst 5 (ints (ordA 5 i)), .bool true]) := lt_cases (P := fun i : Nat => FnF TT 55 [.int .i64 5, .int .i64 i] (.tup [.lst 5 (ints (ordA 5 i)), .bool true])) 33 yo_5_33 xo_5_33
theorem yo_5_35 : ∀ i : Nat, i < 35 → FnF TT 55 [.int .i64 5, .int .i64 i] (.tup [.lst 5 (ints (ordA 5 i)), .bool true]) := lt_cases (P := fun i : Nat => FnF TT 55 [.int .i64 5, .int .i64 i] (.tup [.lst 5 (ints (ordA 5 i)), .bool true])) 34 yo_5_34 xo_5_34
theorem yo_5_36 : ∀ i : Nat, i < 36 → FnF TT 55 [.int .i64 5, .int .i64 i] (.tup [.lst 5 (ints (ordA 5 i)), .bool true]) := lt_cases (P := fun i : Nat => FnF TT 55 [.int .i64 5, .int .i64 i] (.tup [.lst 5 (ints (ordA 5 i)), .bool true])) 35 yo_5_35 xo_5_35
theorem yo_5_37 : ∀ i : Nat, i < 37 → FnF TT 55 [.int .i64 5, .int .i64 i] (.tup [.lst 5 (ints (ordA 5 i)), .bool true]) := lt_cases (P := fun i : Nat => FnF TT 55 [.int .i64 5, .int .i64 i] (.tup [.lst 5 (ints (ordA 5 i)), .bool true])) 36 yo_5_36 xo_5_36
theorem yo_5_38 : ∀ i : Nat, i < 38 → FnF TT 55 [.int .i64 5, .int .i64 i] (.tup [.lst 5 (ints (ordA 5 i)), .bool true]) := lt_cases (P := fun i : Nat => FnF TT 55 [.int .i64 5, .int .i64 i] (.tup [.lst 5 (ints (ordA 5 i)), .bool true])) 37 yo_5_37 xo_5_37
theorem yo_5_39 : ∀ i : Nat, i < 39 → FnF TT 55 [.int .i64 5, .int .i64 i] (.tup [.lst 5 (ints (ordA 5 i)), .bool true]) := lt_cases (P := fun i : Nat => FnF TT 55 [.int .i64 5, .int .i64 i] (.tup [.lst 5 (ints (ordA 5 i)), .bool true])) 38 yo_5_38 xo_5_38
theorem yo_5_40 : ∀ i : Nat, i < 40 → FnF TT 55 [.int .i64 5, .int .i64 i] (.tup [.lst 5 (ints (ordA 5 i)), .bool true]) := lt_cases (P := fun i : Nat => FnF TT 55 [.int .i64 5, .int .i64 i] (.tup [.lst 5 (ints (ordA 5 i)), .bool true])) 39 yo_5_39 xo_5_39
theorem yo_5_41 : ∀ i : Nat, i < 41 → FnF TT 55 [.int .i64 5, .int .i64 i] (.tup [.lst 5 (ints (ordA 5 i)), .bool true]) := lt_cases (P := fun i : Nat => FnF TT 55 [.int .i64 5, .int .i64 i] (.tup [.lst 5 (ints (ordA 5 i)), .bool true])) 40 yo_5_40 xo_5_40
theorem yo_5_42 : ∀ i : Nat, i < 42 → FnF TT 55 [.int .i64 5, .int .i64 i] (.tup [.lst 5 (ints (ordA 5 i)), .bool true]) := lt_cases (P := fun i : Nat => FnF TT 55 [.int .i64 5, .int .i64 i] (.tup [.lst 5 (ints (ordA 5 i)), .bool true])) 41 yo_5_41 xo_5_41
theorem yo_5_43 : ∀ i : Nat, i < 43 → FnF TT 55 [.int .i64 5, .int .i64 i] (.tup [.lst 5 (ints (ordA 5 i)), .bool true]) := lt_cases (P := fun i : Nat => FnF TT 55 [.int .i64 5, .int .i64 i] (.tup [.lst 5 (ints (ordA 5 i)), .bool true])) 42 yo_5_42 xo_5_42
theorem yo_5_44 : ∀ i : Nat, i < 44 → FnF TT 55 [.int .i64 5, .int .i64 i] (.tup [.lst 5 (ints (ordA 5 i)), .bool true]) := lt_cases (P := fun i : Nat => FnF TT 55 [.int .i64 5, .int .i64 i] (.tup [.lst 5 (ints (ordA 5 i)), .bool true])) 43 yo_5_43 xo_5_43
theorem yo_5_45 : ∀ i : Nat, i < 45 → FnF TT 55 [.int .i64 5, .int .i64 i] (.tup [.lst 5 (ints (ordA 5 i)), .bool true]) := lt_cases (P := fun i : Nat => FnF TT 55 [.int .i64 5, .int .i64 i] (.tup [.lst 5 (ints (ordA 5 i)), .bool true])) 44 yo_5_44 xo_5_44
theorem yo_5_46 : ∀ i : Nat, i < 46 → FnF TT 55 [.int .i64 5, .int .i64 i] (.tup [.lst 5 (ints (ordA 5 i)), .bool true]) := lt_cases (P := fun i : Nat => FnF TT 55 [.int .i64 5, .int .i64 i] (.tup [.lst 5 (ints (ordA 5 i)), .bool true])) 45 yo_5_45 xo_5_45
theorem yo_5_47 : ∀ i : Nat, i < 47 → FnF TT 55 [.int .i64 5, .int .i64 i] (.tup [.lst 5 (ints (ordA 5 i)), .bool true]) := lt_cases (P := fun i : Nat => FnF TT 55 [.int .i64 5, .int .i64 i] (.tup [.lst 5 (ints (ordA 5 i)), .bool true])) 46 yo_5_46 xo_5_46
theorem yo_5_48 : ∀ i : Nat, i < 48 → FnF TT 55 [.int .i64 5, .int .i64 i] (.tup [.lst 5 (ints (ordA 5 i)), .bool true]) := lt_cases (P := fun i : Nat => FnF TT 55 [.int .i64 5, .int .i64 i] (.tup [.lst 5 (ints (ordA 5 i)), .bool true])) 47 yo_5_47 xo_5_47
theorem yo_5_49 : ∀ i : Nat, i < 49 → FnF TT 55 [.int .i64 5, .int .i64 i] (.tup [.lst 5 (ints (ordA 5 i)), .bool true]) := lt_cases (P := fun i : Nat => FnF TT 55 [.int .i64 5, .int .i64 i] (.tup [.lst 5 (ints (ordA 5 i)), .bool true])) 48 yo_5_48 xo_5_48
theorem yo_5_50 : ∀ i : Nat, i < 50 → FnF TT 55 [.int .i64 5, .int .i64 i] (.tup [.lst 5 (ints (ordA 5 i)), .bool true]) := lt_cases (P := fun i : Nat => FnF TT 55 [.int .i64 5, .int .i64 i] (.tup [.lst 5 (ints (ordA 5 i)), .bool true])) 49 yo_5_49 xo_5_49
theorem yo_5_51 : ∀ i : Nat, i < 51 → FnF TT 55 [.int .i64 5, .int .i64 i] (.tup [.lst 5 (ints (ordA 5 i)), .bool true]) := lt_cases (P := fun i : Nat => FnF TT 55 [.int .i64 5, .int .i64 i] (.tup [.lst 5 (ints (ordA 5 i)), .bool true])) 50 yo_5_50 xo_5_50
theorem yo_5_52 : ∀ i : Nat, i < 52 → FnF TT 55 [.int .i64 5, .int .i64 i] (.tup [.lst 5 (ints (ordA 5 i)), .bool true]) := lt_cases (P := fun i : Nat => FnF TT 55 [.int .i64 5, .int .i64 i] (.tup [.lst 5 (ints (ordA 5 i)), .bool true])) 51 yo_5_51 xo_5_51
theorem yo_5_53 : ∀ i : Nat, i < 53 → FnF TT 55 [.int .i64 5, .int .i64 i] (.tup [.lst 5 (ints (ordA 5 i)), .bool true]) := lt_cases (P := fun i : Nat => FnF TT 55 [.int .i64 5, .int .i64 i] (.tup [.lst 5 (ints (ordA 5 i)), .bool true])) 52 yo_5_52 xo_5_52
theorem yo_5_54 : ∀ i : Nat, i < 54 → FnF TT 55 [.int .i64 5, .int .i64 i] (.tup [.lst 5 (ints (ordA 5 i)), .bool true]) := lt_cases (P := fun i : Nat => FnF TT 55 [.int .i64 5, .int .i64 i] (.tup [.lst 5 (ints (ordA 5 i)), .bool true])) 53 yo_5_53 xo_5_53
theorem yo_5_55 : ∀ i : Nat, i < 55 → FnF TT 55 [.int .i64 5, .int .i64 i] (.tup [.lst 5 (ints (ordA 5 i)), .bool true]) := lt_cases (P := fun i : Nat => FnF TT 55 [.int .i64 5, .int .i64 i] (.tup [.lst 5 (ints (ordA 5 i)), .bool true])) 54 yo_5_54 xo_5_54
theorem yo_5_56 : ∀ i : Nat, i < 56 → FnF TT 55 [.int .i64 5, .int .i64 i] (.tup [.lst 5 (ints (ordA 5 i)), .bool true]) := lt_cases (P := fun i : Nat => FnF TT 55 [.int .i64 5, .int .i64 i] (.tup [.lst 5 (ints (ordA 5 i)), .bool true])) 55 yo_5_55 xo_5_55
theorem yo_5_57 : ∀ i : Nat, i < 57 → FnF TT 55 [.int .i64 5, .int .i64 i] (.tup [.lst 5 (ints (ordA 5 i)), .bool true]) := lt_cases (P := fun i : Nat => FnF TT 55 [.int .i64 5, .int .i64 i] (.tup [.lst 5 (ints (ordA 5 i)), .bool true])) 56 yo_5_56 xo_5_56
theorem yo_5_58 : ∀ i : Nat, i < 58 → FnF TT 55 [.int .i64 5, .int .i64 i] (.tup [.lst 5 (ints (ordA 5 i)), .bool true]) := lt_cases (P := fun i : Nat => FnF TT 55 [.int .i64 5, .int .i64 i] (.tup [.lst 5 (ints (ordA 5 i)), .bool true])) 57 yo_5_57 xo_5_57
theorem yo_5_59 : ∀ i : Nat, i < 59 → FnF TT 55 [.int .i64 5, .int .i64 i] (.tup [.lst 5 (ints (ordA 5 i)), .bool true]) := lt_cases (P := fun i : Nat => FnF TT 55 [.int .i64 5, .int .i64 i] (.tup [.lst 5 (ints (ordA 5 i)), .bool true])) 58 yo_5_58 xo_5_58
theorem yo_5_60 : ∀ i : Nat, i < 60 → FnF TT 55 [.int .i64 5, .int .i64 i] (.tup [.lst 5 (ints (ordA 5 i)), .bool true]) := lt_cases (P := fun i : Nat => FnF TT 55 [.int .i64 5, .int .i64 i] (.tup [.lst 5 (ints (ordA 5 i)), .bool true])) 59 yo_5_59 xo_5_59
theorem yo_5_61 : ∀ i : Nat, i < 61 → FnF TT 55 [.int .i64 5, .int .i64 i] (.tup [.lst 5 (ints (ordA 5 i)), .bool true]) := lt_cases (P := fun i : Nat => FnF TT 55 [.int .i64 5, .int .i64 i] (.tup [.lst 5 (ints (ordA 5 i)), .bool true])) 60 yo_5_60 xo_5_60
theorem yo_5_62 : ∀ i : Nat, i < 62 → FnF TT 55 [.int .i64 5, .int .i64 i] (.tup [.lst 5 (ints (ordA 5 i)), .bool true]) := lt_cases (P := fun i : Nat => FnF TT 55 [.int .i64 5, .int .i64 i] (.tup [.lst 5 (ints (ordA 5 i)), .bool true])) 61 yo_5_61 xo_5_61
theorem yo_5_63 : ∀ i : Nat, i < 63 → FnF TT 55 [.int .i64 5, .int .i64 i] (.tup [.lst 5 (ints (ordA 5 i)), .bool true]) := lt_cases (P := fun i : Nat => FnF TT 55 [.int .i64 5, .int .i64 i] (.tup [.lst 5 (ints (ordA 5 i)), .bool true])) 62 yo_5_62 xo_5_62
theorem yo_5_64 : ∀ i : Nat, i < 64 → FnF TT 55 [.int .i64 5, .int .i64 i] (.tup [.lst 5 (ints (ordA 5 i)), .bool true]) := lt_cases (P := fun i : Nat => FnF TT 55 [.int .i64 5, .int .i64 i] (.tup [.lst 5 (ints (ordA 5 i)), .bool true])) 63 yo_5_63 xo_5_63
theorem yo_5_65 : ∀ i : Nat, i < 65 → FnF TT 55 [.int .i64 5, .int .i64 i] (.tup [.lst 5 (ints (ordA 5 i)), .bool true]) := lt_cases (P := fun i : Nat => FnF TT 55 [.int .i64 5, .int .i64 i] (.tup [.lst 5 (ints (ordA 5 i)), .bool true])) 64 yo_5_64 xo_5_64
theorem yo_5_66 : ∀ i : Nat, i < 66 → FnF TT 55 [.int .i64 5, .int .i64 i] (.tup [.lst 5 (ints (ordA 5 i)), .bool true]) := lt_cases (P := fun i : Nat => FnF TT 55 [.int .i64 5, .int .i64 i] (.tup [.lst 5 (ints (ordA 5 i)), .bool true])) 65 yo_5_65 xo_5_65
theorem yo_5_67 : ∀ i : Nat, i < 67 → FnF TT 55 [.int .i64 5, .int .i64 i] (.tup [.lst 5 (ints (ordA 5 i)), .bool true]) := lt_cases (P := fun i : Nat => FnF TT 55 [.int .i64 5, .int .i64 i] (.tup [.lst 5 (ints (ordA 5 i)), .bool true])) 66 yo_5_66 xo_5_66
theorem yo_5_68 : ∀ i : Nat, i < 68 → FnF TT 55 [.int .i64 5, .int .i64 i] (.tup [.lst 5 (ints (ordA 5 i)), .bool true]) := lt_cases (P := fun i : Nat => FnF TT 55 [.int .i64 5, .int .i64 i] (.tup [.lst 5 (ints (ordA 5 i)), .bool true])) 67 yo_5_67 xo_5_67
theorem yo_5_69 : ∀ i : Nat, i < 69 → FnF TT 55 [.int .i64 5, .int .i64 i] (.tup [.lst 5 (ints (ordA 5 i)), .bool true]) := lt_cases (P := fun i : Nat => FnF TT 55 [.int .i64 5, .int .i64 i] (.tup [.lst 5 (ints (ordA 5 i)), .bool true])) 68 yo_5_68 xo_5_68
theorem yo_5_70 : ∀ i : Nat, i < 70 → FnF TT 55 [.int .i64 5, .int .i64 i] (.tup [.lst 5 (ints (ordA 5 i)), .bool true]) := lt_cases (P := fun i : Nat => FnF TT 55 [.int .i64 5, .int .i64 i] (.tup [.lst 5 (ints (ordA 5 i)), .bool true])) 69 yo_5_69 xo_5_69
theorem yo_5_71 : ∀ i : Nat, i < 71 → FnF TT 55 [.int .i64 5, .int .i64 i] (.tup [.lst 5 (ints (ordA 5 i)), .bool true]) := lt_cases (P := fun i : Nat => FnF TT 55 [.int .i64 5, .int .i64 i] (.tup [.lst 5 (ints (ordA 5 i)), .bool true])) 70 yo_5_70 xo_5_70
theorem yo_5_72 : ∀ i : Nat, i < 72 → FnF TT 55 [.int .i64 5, .int .i64 i] (.tup [.lst 5 (ints (ordA 5 i)), .bool true]) := lt_cases (P := fun i : Nat => FnF TT 55 [.int .i64 5, .int .i64 i] (.tup [.lst 5 (ints (ordA 5 i)), .bool true])) 71 yo_5_71 xo_5_71
theorem yo_5_73 : ∀ i : Nat, i < 73 → FnF TT 55 [.int .i64 5, .int .i64 i] (.tup [.lst 5 (ints (ordA 5 i)), .bool true]) := lt_cases (P := fun i : Nat => FnF TT 55 [.int .i64 5, .int .i64 i] (.tup [.lst 5 (ints (ordA 5 i)), .bool true])) 72 yo_5_72 xo_5_72
theorem yo_5_74 : ∀ i : Nat, i < 74 → FnF TT 55 [.int .i64 5, .int .i64 i] (.tup [.lst 5 (ints (ordA 5 i)), .bool true]) := lt_cases (P := fun i : Nat => FnF TT 55 [.int .i64 5, .int .i64 i] (.tup [.lst 5 (ints (ordA 5 i)), .bool true])) 73 yo_5_73 xo_5_73
theorem yo_5_75 : ∀ i : Nat, i < 75 → FnF TT 55 [.int .i64 5, .int .i64 i] (.tup [.lst 5 (ints (ordA 5 i)), .bool true]) := lt_cases (P := fun i : Nat => FnF TT 55 [.int .i64 5, .int .i64 i] (.tup [.lst 5 (ints (ordA 5 i)), .bool true])) 74 yo_5_74 xo_5_74
theorem yo_5_76 : ∀ i : Nat, i < 76 → FnF TT 55 [.int .i64 5, .int .i64 i] (.tup [.lst 5 (ints (ordA 5 i)), .bool true]) := lt_cases (P := fun i : Nat => FnF TT 55 [.int .i64 5, .int .i64 i] (.tup [.lst 5 (ints (ordA 5 i)), .bool true])) 75 yo_5_75 xo_5_75
theorem yo_5_77 : ∀ i : Nat, i < 77 → FnF TT 55 [.int .i64 5, .int .i64 i] (.tup [.lst 5 (ints (ordA 5 i)), .bool true]) := lt_cases (P := fun i : Nat => FnF TT 55 [.int .i64 5, .int .i64 i] (.tup [.lst 5 (ints (ordA 5 i)), .bool true])) 76 yo_5_76 xo_5_76
theorem yo_5_78 : ∀ i : Nat, i < 78 → FnF TT 55 [.int .i64 5, .int .i64 i] (.tup [.lst 5 (ints (ordA 5 i)), .bool true]) := lt_cases (P := fun i : Nat => FnF TT 55 [.int .i64 5, .int .i64 i] (.tup [.lst 5 (ints (ordA 5 i)), .bool true])) 77 yo_5_77 xo_5_77
theorem yo_5_79 : ∀ i : Nat, i < 79 → FnF TT 55 [.int .i64 5, .int .i64 i] (.tup [.lst 5 (ints (ordA 5 i)), .bool true]) := lt_cases (P := fun i : Nat => FnF TT 55 [.int .i64 5, .int .i64 i] (.tup [.lst 5 (ints (ordA 5 i)), .bool true])) 78 yo_5_78 xo_5_78
theorem yo_5_80 : ∀ i : Nat, i < 80 → FnF TT 55 [.int .i64 5, .int .i64 i] (.tup [.lst 5 (ints (ordA 5 i)), .bool true]) := lt_cases (P := fun i : Nat => FnF TT 55 [.int .i64 5, .int .i64 i] (.tup [.lst 5 (ints (ordA 5 i)), .bool true])) 79 yo_5_79 xo_5_79
theorem yo_5_81 : ∀ i : Nat, i < 81 → FnF TT 55 [.int .i64 5, .int .i64 i] (.tup [.lst 5 (ints (ordA 5 i)), .bool true]) := lt_cases (P := fun i : Nat => FnF TT 55 [.int .i64 5, .int .i64 i] (.tup [.lst 5 (ints (ordA 5 i)), .bool true])) 80 yo_5_80 xo_5_80
theorem yo_5_82 : ∀ i : Nat, i < 82 → FnF TT 55 [.int .i64 5, .int .i64 i] (.tup [.lst 5 (ints (ordA 5 i)), .bool true]) := lt_cases (P := fun i : Nat => FnF TT 55 [.int .i64 5, .int .i64 i] (.tup [.lst 5 (ints (ordA 5 i)), .bool true])) 81 yo_5_81 xo_5_81
theorem yo_5_83 : ∀ i : Nat, i < 83 → FnF TT 55 [.int .i64 5, .int .i64 i] (.tup [.lst 5 (ints (ordA 5 i)), .bool true]) := lt_cases (P := fun i : Nat => FnF TT 55 [.int .i64 5, .int .i64 i] (.tup [.lst 5 (ints (ordA 5 i)), .bool true])) 82 yo_5_82 xo_5_82
theorem yo_5_84 : ∀ i : Nat, i < 84 → FnF TT 55 [.int .i64 5, .int .i64 i] (.tup [.lst 5 (ints (ordA 5 i)), .bool true]) := lt_cases (P := fun i : Nat => FnF TT 55 [.int .i64 5, .int .i64 i] (.tup [.lst 5 (ints (ordA 5 i)), .bool true])) 83 yo_5_83 xo_5_83
theorem yo_5_85 : ∀ i : Nat, i < 85 → FnF TT 55 [.int .i64 5, .int .i64 i] (.tup [.lst 5 (ints (ordA 5 i)), .bool true]) := lt_cases (P := fun i : Nat => FnF TT 55 [.int .i64 5, .int .i64 i] (.tup [.lst 5 (ints (ordA 5 i)), .bool true])) 84 yo_5_84 xo_5_84
theorem yo_5_86 : ∀ i : Nat, i < 86 → FnF TT 55 [.int .i64 5, .int .i64 i] (.tup [.lst 5 (ints (ordA 5 i)), .bool true]) := lt_cases (P := fun i : Nat => FnF TT 55 [.int .i64 5, .int .i64 i] (.tup [.lst 5 (ints (ordA 5 i)), .bool true])) 85 yo_5_85 xo_5_85
theorem yo_5_87 : ∀ i : Nat, i < 87 → FnF TT 55 [.int .i64 5, .int .i64 i] (.tup [.lst 5 (ints (ordA 5 i)), .bool true]) := lt_cases (P := fun i : Nat => FnF TT 55 [.int .i64 5, .int .i64 i] (.tup [.lst 5 (ints (ordA 5 i)), .bool true])) 86 yo_5_86 xo_5_86
theorem yo_5_88 : ∀ i : Nat, i < 88 → FnF TT 55 [.int .i64 5, .int .i64 i] (.tup [.lst 5 (ints (ordA 5 i)), .bool true]) := lt_cases (P := fun i : Nat => FnF TT 55 [.int .i64 5, .int .i64 i] (.tup [.lst 5 (ints (ordA 5 i)), .bool true])) 87 yo_5_87 xo_5_87
theorem yo_5_89 : ∀ i : Nat, i < 89 → FnF TT 55 [.int .i64 5, .int .i64 i] (.tup [.lst 5 (ints (ordA 5 i)), .bool true]) := lt_cases (P := fun i : Nat => FnF TT 55 [.int .i64 5, .int .i64 i] (.tup [.lst 5 (ints (ordA 5 i)), .bool true])) 88 yo_5_88 xo_5_88
theorem yo_5_90 : ∀ i : Nat, i < 90 → FnF TT 55 [.int .i64 5, .int .i64 i] (.tup [.lst 5 (ints (ordA 5 i)), .bool true]) := lt_cases (P := fun i : Nat => FnF TT 55 [.int .i64 5, .int .i64 i] (.tup [.lst 5 (ints (ordA 5 i)), .bool true])) 89 yo_5_89 xo_5_89
theorem yo_5_91 : ∀ i : Nat, i < 91 → FnF TT 55 [.int .i64 5, .int .i64 i] (.tup [.lst 5 (ints (ordA 5 i)), .bool true]) := lt_cases (P := fun i : Nat => FnF TT 55 [.int .i64 5, .int .i64 i] (.tup [.lst 5 (ints (ordA 5 i)), .bool true])) 90 yo_5_90 xo_5_90
theorem yo_5_92 : ∀ i : Nat, i < 92 → FnF TT 55 [.int .i64 5, .int .i64 i] (.tup [.lst 5 (ints (ordA 5 i)), .bool true]) := lt_cases (P := fun i : Nat => FnF TT 55 [.int .i64 5, .int .i64 i] (.tup [.lst 5 (ints (ordA 5 i)), .bool true])) 91 yo_5_91 xo_5_91
theorem yo_5_93 : ∀ i : Nat, i < 93 → FnF TT 55 [.int .i64 5, .int .i64 i] (.tup [.lst 5 (ints (ordA 5 i)), .bool true]) := lt_cases (P := fun i : Nat => FnF TT 55 [.int .i64 5, .int .i64 i] (.tup [.lst 5 (ints (ordA 5 i)), .bool true])) 92 yo_5_92 xo_5_92
theorem yo_5_94 : ∀ i : Nat, i < 94 → FnF TT 55 [.int .i64 5, .int .i64 i] (.tup [.lst 5 (ints (ordA 5 i)), .bool true]) := lt_cases (P := fun i : Nat => FnF TT 55 [.int .i64 5, .int .i64 i] (.tup [.lst 5 (ints (ordA 5 i)), .bool true])) 93 yo_5_93 xo_5_93
theorem yo_5_95 : ∀ i : Nat, i < 95 → FnF TT 55 [.int .i64 5, .int .i64 i] (.tup [.lst 5 (ints (ordA 5 i)), .bool true]) := lt_cases (P := fun i : Nat => FnF TT 55 [.int .i64 5, .int .i64 i] (.tup [.lst 5 (ints (ordA 5 i)), .bool true])) 94 yo_5_94 xo_5_94
theorem yo_5_96 : ∀ i : Nat, i < 96 → FnF TT 55 [.int .i64 5, .int .i64 i] (.tup [.lst 5 (ints (ordA 5 i)), .bool true]) := lt_cases (P := fun i : Nat => FnF TT 55 [.int .i64 5, .int .i64 i] (.tup [.lst 5 (ints (ordA 5 i)), .bool true])) 95 yo_5_95 xo_5_95
theorem yo_5_97 : ∀ i : Nat, i < 97 → FnF TT 55 [.int .i64 5, .int .i64 i] (.tup [.lst 5 (ints (ordA 5 i)), .bool true]) := lt_cases (P := fun i : Nat => FnF TT 55 [.int .i64 5, .int .i64 i] (.tup [.lst 5 (ints (ordA 5 i)), .bool true])) 96 yo_5_96 xo_5_96
theorem yo_5_98 : ∀ i : Nat, i < 98 → FnF TT 55 [.int .i64 5, .int .i64 i] (.tup [.lst 5 (ints (ordA 5 i)), .bool true]) := lt_cases (P := fun i : Nat => FnF TT 55 [.int .i64 5, .int .i64 i] (.tup [.lst 5 (ints (ordA 5 i)), .bool true])) 97 yo_5_97 xo_5_97
theorem yo_5_99 : ∀ i : Nat, i < 99 → FnF TT 55 [.int .i64 5, .int .i64 i] (.tup [.lst 5 (ints (ordA 5 i)), .bool true]) := lt_cases (P := fun i : Nat => FnF TT 55 [.int .i64 5, .int .i64 i] (.tup [.lst 5 (ints (ordA 5 i)), .bool true])) 98 yo_5_98 xo_5_98
theorem yo_5_100 : ∀ i : Nat, i < 100 → FnF TT 55 [.int .i64 5, .int .i64 i] (.tup [.lst 5 (ints (ordA 5 i)), .bool true]) := lt_cases (P := fun i : Nat => FnF TT 55 [.int .i64 5, .int .i64 i] (.tup [.lst 5 (ints (ordA 5 i)), .bool true])) 99 yo_5_99 xo_5_99
theorem yo_5_101 : ∀ i : Nat, i < 101 → FnF TT 55 [.int .i64 5, .int .i64 i] (.tup [.lst 5 (ints (ordA 5 i)), .bool true]) := lt_cases (P := fun i : Nat => FnF TT 55 [.int .i64 5, .int .i64 i] (.tup [.lst 5 (ints (ordA 5 i)), .bool true])) 100 yo_5_100 xo_5_100
theorem yo_5_102 : ∀ i : Nat, i < 102 → FnF TT 55 [.int .i64 5, .int .i64 i] (.tup [.lst 5 (ints (ordA 5 i)), .bool true]) := lt_cases (P := fun i : Nat => FnF TT 55 [.int .i64 5, .int .i64 i] (.tup [.lst 5 (ints (ordA 5 i)), .bool true])) 101 yo_5_101 xo_5_101
theorem yo_5_103 : ∀ i : Nat, i < 103 → FnF TT 55 [.int .i64 5, .int .i64 i] (.tup [.lst 5 (ints (ordA 5 i)), .bool true]) := lt_cases (P := fun i : Nat => FnF TT 55 [.int .i64 5, .int .i64 i] (.tup [.lst 5 (ints (ordA 5 i)), .bool true])) 102 yo_5_102 xo_5_102
theorem yo_5_104 : ∀ i : Nat, i < 104 → FnF TT 55 [.int .i64 5, .int .i64 i] (.tup [.lst 5 (ints (ordA 5 i)), .bool true]) := lt_cases (P := fun i : Nat => FnF TT 55 [.int .i64 5, .int .i64 i] (.tup [.lst 5 (ints (ordA 5 i)), .bool true])) 103 yo_5_103 xo_5_103
theorem yo_5_105 : ∀ i : Nat, i < 105 → FnF TT 55 [.int .i64 5, .int .i64 i] (.tup [.lst 5 (ints (ordA 5 i)), .bool true]) := lt_cases (P := fun i : Nat => FnF TT 55 [.int .i64 5, .int .i64 i] (.tup [.lst 5 (ints (ordA 5 i)), .bool true])) 104 yo_5_104 xo_5_104
theorem yo_5_106 : ∀ i : Nat, i < 106 → FnF TT 55 [.int .i64 5, .int .i64 i] (.tup [.lst 5 (ints (ordA 5 i)), .bool true]) := lt_cases (P := fun i : Nat => FnF TT 55 [.int .i64 5, .int .i64 i] (.tup [.lst 5 (ints (ordA 5 i)), .bool true])) 105 yo_5_105 xo_5_105
theorem yo_5_107 : ∀ i : Nat, i < 107 → FnF TT 55 [.int .i64 5, .int .i64 i] (.tup [.lst 5 (ints (ordA 5 i)), .bool true]) := lt_cases (P := fun i : Nat => FnF TT 55 [.int .i64 5, .int .i64 i] (.tup [.lst 5 (ints (ordA 5 i)), .bool true])) 106 yo_5_106 xo_5_106
theorem yo_5_108 : ∀ i : Nat, i < 108 → FnF TT 55 [.int .i64 5, .int .i64 i] (.tup [.lst 5 (ints (ordA 5 i)), .bool true]) := lt_cases (P := fun i : Nat => FnF TT 55 [.int .i64 5, .int .i64 i] (.tup [.lst 5 (ints (ordA 5 i)), .bool true])) 107 yo_5_107 xo_5_107
theorem yo_5_109 : ∀ i : Nat, i < 109 → FnF TT 55 [.int .i64 5, .int .i64 i] (.tup [.lst 5 (ints (ordA 5 i)), .bool true]) := lt_cases (P := fun i : Nat => FnF TT 55 [.int .i64 5, .int .i64 i] (.tup [.lst 5 (ints (ordA 5 i)), .bool true])) 108 yo_5_108 xo_5_108
theorem yo_5_110 : ∀ i : Nat, i < 110 → FnF TT 55 [.int .i64 5, .int .i64 i] (.tup [.lst 5 (ints (ordA 5 i)), .bool true]) := lt_cases (P := fun i : Nat => FnF TT 55 [.int .i64 5, .int .i64 i] (.tup [.lst 5 (ints (ordA 5 i)), .bool true])) 109 yo_5_109 xo_5_109
theorem yo_5_111 : ∀ i : Nat, i < 111 → FnF TT 55 [.int .i64 5, .int .i64 i] (.tup [.lst 5 (ints (ordA 5 i)), .bool true]) := lt_cases (P := fun i : Nat => FnF TT 55 [.int .i64 5, .int .i64 i] (.tup [.lst 5 (ints (ordA 5 i)), .bool true])) 110 yo_5_110 xo_5_110
theorem yo_5_112 : ∀ i : Nat, i < 112 → FnF TT 55 [.int .i64 5, .int .i64 i] (.tup [.lst 5 (ints (ordA 5 i)), .bool true]) := lt_cases (P := fun i : Nat => FnF TT 55 [.int .i64 5, .int .i64 i] (.tup [.lst 5 (ints (ordA 5 i)), .bool true])) 111 yo_5_111 xo_5_111
theorem yo_5_113 : ∀ i : Nat, i < 113 → FnF TT 55 [.int .i64 5, .int .i64 i] (.tup [.lst 5 (ints (ordA 5 i)), .bool true]) := lt_cases (P := fun i : Nat => FnF TT 55 [.int .i64 5, .int .i64 i] (.tup [.lst 5 (ints (ordA 5 i)), .bool true])) 112 yo_5_112 xo_5_112
theorem yo_5_114 : ∀ i : Nat, i < 114 → FnF TT 55 [.int .i64 5, .int .i64 i] (.tup [.lst 5 (ints (ordA 5 i)), .bool true]) := lt_cases (P := fun i : Nat => FnF TT 55 [.int .i64 5, .int .i64 i] (.tup [.lst 5 (ints (ordA 5 i)), .bool true])) 113 yo_5_113 xo_5_113
theorem yo_5_115 : ∀ i : Nat, i < 115 → FnF TT 55 [.int .i64 5, .int .i64 i] (.tup [.lst 5 (ints (ordA 5 i)), .bool true]) := lt_cases (P := fun i : Nat => FnF TT 55 [.int .i64 5, .int .i64 i] (.tup [.lst 5 (ints (ordA 5 i)), .bool true])) 114 yo_5_114 xo_5_114
theorem yo_5_116 : ∀ i : Nat, i < 116 → FnF TT 55 [.int .i64 5, .int .i64 i] (.tup [.lst 5 (ints (ordA 5 i)), .bool true]) := lt_cases (P := fun i : Nat => FnF TT 55 [.int .i64 5, .int .i64 i] (.tup [.lst 5 (ints (ordA 5 i)), .bool true])) 115 yo_5_115 xo_5_115
theorem yo_5_117 : ∀ i : Nat, i < 117 → FnF TT 55 [.int .i64 5, .int .i64 i] (.tup [.lst 5 (ints (ordA 5 i)), .bool true]) := lt_cases (P := fun i : Nat => FnF TT 55 [.int .i64 5, .int .i64 i] (.tup [.lst 5 (ints (ordA 5 i)), .bool true])) 116 yo_5_116 xo_5_116
theorem yo_5_118 : ∀ i : Nat, i < 118 → FnF TT 55 [.int .i64 5, .int .i64 i] (.tup [.lst 5 (ints (ordA 5 i)), .bool true]) := lt_cases (P := fun i : Nat => FnF TT 55 [.int .i64 5, .int .i64 i] (.tup [.lst 5 (ints (ordA 5 i)), .bool true])) 117 yo_5_117 xo_5_117
theorem yo_5_119 : ∀ i : Nat, i < 119 → FnF TT 55 [.int .i64 5, .int .i64 i] (.tup [.lst 5 (ints (ordA 5 i)), .bool true]) := lt_cases (P := fun i : Nat => FnF TT 55 [.int .i64 5, .int .i64 i] (.tup [.lst 5 (ints (ordA 5 i)), .bool true])) 118 yo_5_118 xo_5_118
theorem yo_5_120 : ∀ i : Nat, i < 120 → FnF TT 55 [.int .i64 5, .int .i64 i] (.tup [.lst 5 (ints (ordA 5 i)), .bool true]) := lt_cases (P := fun i : Nat => FnF TT 55 [.int .i64 5, .int .i64 i] (.tup [.lst 5 (ints (ordA 5 i)), .bool true])) 119 yo_5_119 xo_5_119
theorem r55 : ∀ n : Nat, 1 ≤ n → n ≤ 5 → ∀ i : Nat, i < facN n → FnF TT 55 [.int .i64 n, .int .i64 i] (.tup [.lst n (ints (ordA n i)), .bool true]) := n5 yo_1_1 yo_2_2 yo_3_6 yo_4_24 yo_5_120
def xQ (n r i : Nat) : Rat := chance n (risB n i) r
def dQ (n r i : Nat) : Rat := xQ n r i + -1 * evenQ n
/-- The sums that the law reckons, one term after another. -/
def chkS (n r : Nat) : Nat → Nat → Rat → Rat → Bool
  | 0, _, s, f => decide (s = 1) && (fits (f * mkRat 1 2) && (decide (rdQ n r = f * mkRat 1 2) && (fits (rdQ n r) && (fits (rdQ n (r + 1)) && decide (¬ rdQ n r < rdQ n (r + 1))))))
  | m + 1, i, s, f => fits (xQ n r i) && (decide (0 ≤ (xQ n r i).num) && (fits (s + xQ n r i) && (fits (dQ n r i) && (fits (-1 * dQ n r i) && (fits (f + (dQ n r i).abs) && chkS n r m (i + 1) (s + xQ n r i) (f + (dQ n r i).abs))))))
def chkR (n r : Nat) : Bool := fits (evenQ n) && (fits (-1 * evenQ n) && chkS n r (facN n) 0 0 0)

theorem chkR_1_0 : chkR 1 0 = true := by decide +kernel
theorem chkR_1_1 : chkR 1 1 = true := by decide +kernel
theorem chkR_1_2 : chkR 1 2 = true := by decide +kernel
theorem chkR_1_3 : chkR 1 3 = true := by decide +kernel
theorem chkR_1_4 : chkR 1 4 = true := by decide +kernel
theorem chkR_2_0 : chkR 2 0 = true := by decide +kernel
theorem chkR_2_1 : chkR 2 1 = true := by decide +kernel
theorem chkR_2_2 : chkR 2 2 = true := by decide +kernel
theorem chkR_2_3 : chkR 2 3 = true := by decide +kernel
theorem chkR_2_4 : chkR 2 4 = true := by decide +kernel
theorem chkR_3_0 : chkR 3 0 = true := by decide +kernel
theorem chkR_3_1 : chkR 3 1 = true := by decide +kernel
theorem chkR_3_2 : chkR 3 2 = true := by decide +kernel
theorem chkR_3_3 : chkR 3 3 = true := by decide +kernel
theorem chkR_3_4 : chkR 3 4 = true := by decide +kernel
theorem chkR_4_0 : chkR 4 0 = true := by decide +kernel
theorem chkR_4_1 : chkR 4 1 = true := by decide +kernel
theorem chkR_4_2 : chkR 4 2 = true := by decide +kernel
theorem chkR_4_3 : chkR 4 3 = true := by decide +kernel
theorem chkR_4_4 : chkR 4 4 = true := by decide +kernel
theorem chkR_5_0 : chkR 5 0 = true := by decide +kernel
theorem chkR_5_1 : chkR 5 1 = true := by decide +kernel
theorem chkR_5_2 : chkR 5 2 = true := by decide +kernel
theorem chkR_5_3 : chkR 5 3 = true := by decide +kernel
theorem chkR_5_4 : chkR 5 4 = true := by decide +kernel
theorem chkR_all (n r : Nat) (h1 : 1 ≤ n) (h2 : n ≤ 5) (hr : r ≤ 4) : chkR n r = true := by
  have : r = 0 ∨ r = 1 ∨ r = 2 ∨ r = 3 ∨ r = 4 := by omega
  rcases this with rfl | rfl | rfl | rfl | rfl
  · exact n5 (P := fun n => chkR n 0 = true) chkR_1_0 chkR_2_0 chkR_3_0 chkR_4_0 chkR_5_0 n h1 h2
  · exact n5 (P := fun n => chkR n 1 = true) chkR_1_1 chkR_2_1 chkR_3_1 chkR_4_1 chkR_5_1 n h1 h2
  · exact n5 (P := fun n => chkR n 2 = true) chkR_1_2 chkR_2_2 chkR_3_2 chkR_4_2 chkR_5_2 n h1 h2
  · exact n5 (P := fun n => chkR n 3 = true) chkR_1_3 chkR_2_3 chkR_3_3 chkR_4_3 chkR_5_3 n h1 h2
  · exact n5 (P := fun n => chkR n 4 = true) chkR_1_4 chkR_2_4 chkR_3_4 chkR_4_4 chkR_5_4 n h1 h2
noncomputable def b13 : Code := Try.f13.body.getD .skip
noncomputable def B13_0 : Code := (bodyC (bodyC (sndC (fstC (sndC (sndC (sndC (sndC (sndC (sndC (sndC (sndC b13))))))))))))
noncomputable def K13_0 : List It := .lp B13_0 :: .blk 0 :: .code (sndC (sndC (sndC (sndC (sndC (sndC (sndC (sndC (sndC b13))))))))) :: []
theorem xl13_0 {fi : FI} {env : Env} {σ : St} : exI TT fi K13_0 env σ = exI TT fi (.code B13_0 :: K13_0) env σ := by unfold K13_0; exact xI_lp
noncomputable def R13_0_0 : List It := .code (sndC (sndC (sndC (sndC (sndC (sndC (sndC (sndC (sndC b13))))))))) :: []
theorem eK13_0_0 : exitA 0 K13_0 = some R13_0_0 := rfl
set_option maxHeartbeats 4000000 in
theorem s13n (n r N : Int) (i m : Nat) (o : List AV) (x1 x2 u1 u2 t1 t2 a1 a2 e1 e2 f1 f2 d1 d2 g1 g2 v1 v2 w1 w2 : Int) (σ σ1 σ2 σ3 σ4 σ5 : St) (c0 : ∀ σ, callI TT 54 [.int .i64 n] σ = some (.int .i64 N, σ)) (hi : (i : Int) < N) (c1 : ∀ σ, callI TT 55 [.int .i64 n, .int .i64 i] σ = some (.tup [.lst m o, .bool true], σ)) (c2 : ∀ σ, callI TT 35 [.lst m o, .int .i64 r] σ = some (.tup [.agg [.int .i64 x1, .int .i64 x2], .bool true], σ)) (s1 : storeCellsA (σ.push ⟨[.int .i64 0, .int .i64 0], 2, false⟩) σ.n 0 [.int .i64 x1, .int .i64 x2] = some σ1) (la : cellsAt σ1 (.ptr σ.n 0) 1 = some [.int .i64 x1]) (hx : 0 ≤ x1) (lb : cellsAt σ1 (.ptr σ.n 0) 2 = some [.int .i64 x1, .int .i64 x2]) (l9 : cellsAt σ1 (.ptr 2 0) 2 = some [.int .i64 u1, .int .i64 u2]) (c3 : ∀ σ, callI TT 56 [.agg [.int .i64 u1, .int .i64 u2], .agg [.int .i64 x1, .int .i64 x2]] σ = some (.agg [.int .i64 t1, .int .i64 t2], σ)) (s2 : storeCellsA σ1 2 0 [.int .i64 t1, .int .i64 t2] = some σ2) (lc : cellsAt σ2 (.ptr σ.n 0) 2 = some [.int .i64 x1, .int .i64 x2]) (l8 : cellsAt σ2 (.ptr 1 0) 2 = some [.int .i64 a1, .int .i64 a2]) (l7 : cellsAt σ2 (.ptr 0 0) 2 = some [.int .i64 e1, .int .i64 e2]) (c4 : ∀ σ, callI TT 53 [.agg [.int .i64 a1, .int .i64 a2], .agg [.int .i64 e1, .int .i64 e2]] σ = some (.agg [.int .i64 f1, .int .i64 f2], σ)) (c5 : ∀ σ, callI TT 56 [.agg [.int .i64 x1, .int .i64 x2], .agg [.int .i64 f1, .int .i64 f2]] σ = some (.agg [.int .i64 d1, .int .i64 d2], σ)) (s3 : storeCellsA (σ2.push ⟨[.int .i64 0, .int .i64 0], 2, false⟩) σ2.n 0 [.int .i64 d1, .int .i64 d2] = some σ3) (ld : cellsAt σ3 (.ptr σ2.n 0) 1 = some [.int .i64 d1]) (hd : d1 < 0) (l8b : cellsAt σ3 (.ptr 1 0) 2 = some [.int .i64 a1, .int .i64 a2]) (le : cellsAt σ3 (.ptr σ2.n 0) 2 = some [.int .i64 d1, .int .i64 d2]) (c6 : ∀ σ, callI TT 53 [.agg [.int .i64 a1, .int .i64 a2], .agg [.int .i64 d1, .int .i64 d2]] σ = some (.agg [.int .i64 g1, .int .i64 g2], σ)) (s4 : storeCellsA σ3 σ2.n 0 [.int .i64 g1, .int .i64 g2] = some σ4) (l10 : cellsAt σ4 (.ptr 3 0) 2 = some [.int .i64 v1, .int .i64 v2]) (lf : cellsAt σ4 (.ptr σ2.n 0) 2 = some [.int .i64 g1, .int .i64 g2]) (c7 : ∀ σ, callI TT 56 [.agg [.int .i64 v1, .int .i64 v2], .agg [.int .i64 g1, .int .i64 g2]] σ = some (.agg [.int .i64 w1, .int .i64 w2], σ)) (s5 : storeCellsA σ4 3 0 [.int .i64 w1, .int .i64 w2] = some σ5) (hw : wrapA .i64 ((i : Int) + 1) = (i : Int) + 1) :
    exI TT (FI.of Try.f13 (TT.an 13)) K13_0 [(5, .int .i64 n), (6, .int .i64 r), (7, .ptr 0 0), (8, .ptr 1 0), (9, .ptr 2 0), (10, .ptr 3 0), (11, .int .i64 i)] σ = exI TT (FI.of Try.f13 (TT.an 13)) K13_0 [(5, .int .i64 n), (6, .int .i64 r), (7, .ptr 0 0), (8, .ptr 1 0), (9, .ptr 2 0), (10, .ptr 3 0), (11, .int .i64 ((i : Int) + 1))] σ5 := by
  rw [fi13]
  conv => lhs; rw [xl13_0]
  simp only [B13_0, b13, Try.f13, Option.getD, fstC, sndC, bodyC, thnC, elsC]
  simp (maxSteps := 1000000) (disch := omega) [eK13_0_0, getCells, takeN, dropN, fieldAddrA, allOne, AV.one, n_push, putN, overN, blt_dec, buildA, sizesOf, fillA, putCells, List.take_succ_cons, List.take_zero, List.drop_succ_cons, List.drop_zero, List.nil_append, List.cons_append, List.length_cons, List.length_nil, eqvs_dgs, convA, c0, hi, c1, c2, s1, la, hx, lb, l9, c3, s2, lc, l8, l7, c4, c5, s3, ld, hd, l8b, le, c6, s4, l10, lf, c7, s5, hw]
set_option maxHeartbeats 4000000 in
theorem s13p (n r N : Int) (i m : Nat) (o : List AV) (x1 x2 u1 u2 t1 t2 a1 a2 e1 e2 f1 f2 d1 d2 v1 v2 w1 w2 : Int) (σ σ1 σ2 σ3 σ5 : St) (c0 : ∀ σ, callI TT 54 [.int .i64 n] σ = some (.int .i64 N, σ)) (hi : (i : Int) < N) (c1 : ∀ σ, callI TT 55 [.int .i64 n, .int .i64 i] σ = some (.tup [.lst m o, .bool true], σ)) (c2 : ∀ σ, callI TT 35 [.lst m o, .int .i64 r] σ = some (.tup [.agg [.int .i64 x1, .int .i64 x2], .bool true], σ)) (s1 : storeCellsA (σ.push ⟨[.int .i64 0, .int .i64 0], 2, false⟩) σ.n 0 [.int .i64 x1, .int .i64 x2] = some σ1) (la : cellsAt σ1 (.ptr σ.n 0) 1 = some [.int .i64 x1]) (hx : 0 ≤ x1) (lb : cellsAt σ1 (.ptr σ.n 0) 2 = some [.int .i64 x1, .int .i64 x2]) (l9 : cellsAt σ1 (.ptr 2 0) 2 = some [.int .i64 u1, .int .i64 u2]) (c3 : ∀ σ, callI TT 56 [.agg [.int .i64 u1, .int .i64 u2], .agg [.int .i64 x1, .int .i64 x2]] σ = some (.agg [.int .i64 t1, .int .i64 t2], σ)) (s2 : storeCellsA σ1 2 0 [.int .i64 t1, .int .i64 t2] = some σ2) (lc : cellsAt σ2 (.ptr σ.n 0) 2 = some [.int .i64 x1, .int .i64 x2]) (l8 : cellsAt σ2 (.ptr 1 0) 2 = some [.int .i64 a1, .int .i64 a2]) (l7 : cellsAt σ2 (.ptr 0 0) 2 = some [.int .i64 e1, .int .i64 e2]) (c4 : ∀ σ, callI TT 53 [.agg [.int .i64 a1, .int .i64 a2], .agg [.int .i64 e1, .int .i64 e2]] σ = some (.agg [.int .i64 f1, .int .i64 f2], σ)) (c5 : ∀ σ, callI TT 56 [.agg [.int .i64 x1, .int .i64 x2], .agg [.int .i64 f1, .int .i64 f2]] σ = some (.agg [.int .i64 d1, .int .i64 d2], σ)) (s3 : storeCellsA (σ2.push ⟨[.int .i64 0, .int .i64 0], 2, false⟩) σ2.n 0 [.int .i64 d1, .int .i64 d2] = some σ3) (ld : cellsAt σ3 (.ptr σ2.n 0) 1 = some [.int .i64 d1]) (hd : 0 ≤ d1) (l10 : cellsAt σ3 (.ptr 3 0) 2 = some [.int .i64 v1, .int .i64 v2]) (lf : cellsAt σ3 (.ptr σ2.n 0) 2 = some [.int .i64 d1, .int .i64 d2]) (c7 : ∀ σ, callI TT 56 [.agg [.int .i64 v1, .int .i64 v2], .agg [.int .i64 d1, .int .i64 d2]] σ = some (.agg [.int .i64 w1, .int .i64 w2], σ)) (s5 : storeCellsA σ3 3 0 [.int .i64 w1, .int .i64 w2] = some σ5) (hw : wrapA .i64 ((i : Int) + 1) = (i : Int) + 1) :
    exI TT (FI.of Try.f13 (TT.an 13)) K13_0 [(5, .int .i64 n), (6, .int .i64 r), (7, .ptr 0 0), (8, .ptr 1 0), (9, .ptr 2 0), (10, .ptr 3 0), (11, .int .i64 i)] σ = exI TT (FI.of Try.f13 (TT.an 13)) K13_0 [(5, .int .i64 n), (6, .int .i64 r), (7, .ptr 0 0), (8, .ptr 1 0), (9, .ptr 2 0), (10, .ptr 3 0), (11, .int .i64 ((i : Int) + 1))] σ5 := by
  rw [fi13]
  conv => lhs; rw [xl13_0]
  simp only [B13_0, b13, Try.f13, Option.getD, fstC, sndC, bodyC, thnC, elsC]
  simp (maxSteps := 1000000) (disch := omega) [eK13_0_0, getCells, takeN, dropN, fieldAddrA, allOne, AV.one, n_push, putN, overN, blt_dec, buildA, sizesOf, fillA, putCells, List.take_succ_cons, List.take_zero, List.drop_succ_cons, List.drop_zero, List.nil_append, List.cons_append, List.length_cons, List.length_nil, eqvs_dgs, convA, c0, hi, c1, c2, s1, la, hx, lb, l9, c3, s2, lc, l8, l7, c4, c5, s3, ld, hd, l10, lf, c7, s5, hw]
set_option maxHeartbeats 4000000 in
theorem e13 (n r : Int) (N : Nat) (v1 v2 b1 b2 h1 h2 : Int) (σ σ1 σ2 : St) (c0 : ∀ σ, callI TT 54 [.int .i64 n] σ = some (.int .i64 N, σ)) (c1 : ∀ σ, callI TT 38 [.int .i64 n, .int .i64 r] σ = some (.tup [.agg [.int .i64 b1, .int .i64 b2], .bool true], σ)) (s1 : storeCellsA (σ.push ⟨[.int .i64 0, .int .i64 0], 2, false⟩) σ.n 0 [.int .i64 b1, .int .i64 b2] = some σ1) (hw : wrapA .i64 (r + 1) = r + 1) (c2 : ∀ σ, callI TT 38 [.int .i64 n, .int .i64 (r + 1)] σ = some (.tup [.agg [.int .i64 h1, .int .i64 h2], .bool true], σ)) (s2 : storeCellsA (σ1.push ⟨[.int .i64 0, .int .i64 0], 2, false⟩) σ1.n 0 [.int .i64 h1, .int .i64 h2] = some σ2) (l9 : cellsAt σ2 (.ptr 2 0) 2 = some [.int .i64 1, .int .i64 1]) (la : cellsAt σ2 (.ptr σ.n 0) 2 = some [.int .i64 b1, .int .i64 b2]) (l10 : cellsAt σ2 (.ptr 3 0) 2 = some [.int .i64 v1, .int .i64 v2]) (c3 : ∀ σ, callI TT 53 [.agg [.int .i64 v1, .int .i64 v2], .agg [.int .i64 1, .int .i64 2]] σ = some (.agg [.int .i64 b1, .int .i64 b2], σ)) (lb : cellsAt σ2 (.ptr σ1.n 0) 2 = some [.int .i64 h1, .int .i64 h2]) (c4 : ∀ σ, callI TT 46 [.agg [.int .i64 b1, .int .i64 b2], .agg [.int .i64 h1, .int .i64 h2]] σ = some (.bool false, σ)) :
    exI TT (FI.of Try.f13 (TT.an 13)) K13_0 [(5, .int .i64 n), (6, .int .i64 r), (7, .ptr 0 0), (8, .ptr 1 0), (9, .ptr 2 0), (10, .ptr 3 0), (11, .int .i64 N)] σ = some (.bool true, σ2) := by
  rw [fi13]
  conv => lhs; rw [xl13_0]
  simp only [B13_0, b13, Try.f13, Option.getD, fstC, sndC, bodyC, thnC, elsC]
  simp (maxSteps := 1000000) (disch := omega) [eK13_0_0, getCells, takeN, dropN, fieldAddrA, allOne, AV.one, n_push, putN, overN, blt_dec, buildA, sizesOf, fillA, putCells, List.take_succ_cons, List.take_zero, List.drop_succ_cons, List.drop_zero, List.nil_append, List.cons_append, List.length_cons, List.length_nil, eqvs_dgs, convA, binNil, eqNil, eqStr, eqFs, Bool.and_self, c0, c1, s1, hw, c2, s2, l9, la, l10, c3, lb, c4]
  simp only [R13_0_0, b13, Try.f13, Option.getD, fstC, sndC, bodyC, thnC, elsC]
  simp (maxSteps := 1000000) (disch := omega) [eK13_0_0, getCells, takeN, dropN, fieldAddrA, allOne, AV.one, n_push, putN, overN, blt_dec, buildA, sizesOf, fillA, putCells, List.take_succ_cons, List.take_zero, List.drop_succ_cons, List.drop_zero, List.nil_append, List.cons_append, List.length_cons, List.length_nil, eqvs_dgs, convA, binNil, eqNil, eqStr, eqFs, Bool.and_self, c0, c1, s1, hw, c2, s2, l9, la, l10, c3, lb, c4]
set_option maxHeartbeats 4000000 in
theorem b13e (n1_ m1 : Nat) (xs ys : List AV) (a b n N : Int) (σ1 σ2 σ3 σ4 : St) (c1 : ∀ σ, callI TT 39 [.lst n1_ xs, .lst m1 ys] σ = some (.bool false, σ)) (c2 : ∀ σ, callI TT 41 [.lst n1_ xs, .int .i64 0, .int .i64 5] σ = some (.int .i64 a, σ)) (hw : wrapA .i64 (1 + a) = n) (c3 : ∀ σ, callI TT 41 [.lst m1 ys, .int .i64 0, .int .i64 5] σ = some (.int .i64 b, σ)) (c4 : ∀ σ, callI TT 54 [.int .i64 n] σ = some (.int .i64 N, σ)) (s1 : storeCellsA ((⟨[], 0⟩ : St).push ⟨[.int .i64 0, .int .i64 0], 2, false⟩) 0 0 [.int .i64 1, .int .i64 N] = some σ1) (n1 : σ1.n = 1) (s2 : storeCellsA (σ1.push ⟨[.int .i64 0, .int .i64 0], 2, false⟩) 1 0 [.int .i64 (-1), .int .i64 1] = some σ2) (n2 : σ2.n = 2) (s3 : storeCellsA (σ2.push ⟨[.int .i64 0, .int .i64 0], 2, false⟩) 2 0 [.int .i64 0, .int .i64 1] = some σ3) (n3 : σ3.n = 3) (s4 : storeCellsA (σ3.push ⟨[.int .i64 0, .int .i64 0], 2, false⟩) 3 0 [.int .i64 0, .int .i64 1] = some σ4) :
    exI TT (FI.of Try.f13 (TT.an 13)) [.code b13] (paramsE 0 [.lst n1_ xs, .lst m1 ys]) ⟨[], 0⟩ = exI TT (FI.of Try.f13 (TT.an 13)) K13_0 [(5, .int .i64 n), (6, .int .i64 b), (7, .ptr 0 0), (8, .ptr 1 0), (9, .ptr 2 0), (10, .ptr 3 0), (11, .int .i64 0)] σ4 := by
  rw [fi13]
  simp only [b13, Try.f13, Option.getD, fstC, sndC, bodyC, thnC, elsC]
  simp (maxSteps := 1000000) (disch := omega) [eK13_0_0, getCells, takeN, dropN, fieldAddrA, allOne, AV.one, n_push, putN, overN, blt_dec, buildA, sizesOf, fillA, putCells, List.take_succ_cons, List.take_zero, List.drop_succ_cons, List.drop_zero, List.nil_append, List.cons_append, List.length_cons, List.length_nil, eqvs_dgs, convA, c1, c2, hw, c3, c4, s1, n1, s2, n2, s3, n3, s4]
  rfl
set_option maxHeartbeats 4000000 in
theorem z13 (n m : Nat) (xs ys : List AV) (c1 : ∀ σ, callI TT 39 [.lst n xs, .lst m ys] σ = some (.bool true, σ)) :
    ∃ σ', exI TT (FI.of Try.f13 (TT.an 13)) [.code (Try.f13.body.getD .skip)] (paramsE 0 [.lst n xs, .lst m ys]) ⟨[], 0⟩ = some (.bool true, σ') := by
  refine ex1 ?_
  rw [fi13]
  simp only [Try.f13, Option.getD]
  simp (maxSteps := 1000000) (disch := omega) [eK13_0_0, cellsAt, getCells, takeN, dropN, fieldAddrA, allOne, AV.one, n_push, storeCellsA, putN, overN, St.push, St.get, St.set, hget, hset, blt_dec, buildA, sizesOf, fillA, putCells, List.take_succ_cons, List.take_zero, List.drop_succ_cons, List.drop_zero, List.nil_append, List.cons_append, List.length_cons, List.length_nil, eqvs_dgs, convA, c1]
theorem one_fits : fits (-1 : Rat) = true := by decide +kernel
theorem half_fits : fits (mkRat 1 2) = true := by decide +kernel
theorem l13 (n r : Nat) (h1 : 1 ≤ n) (h2 : n ≤ 5) (hr : r ≤ 4) (he : fits (evenQ n) = true) (hm : fits (-1 * evenQ n) = true) : ∀ (m i : Nat) (s f : Rat) (σ : St), i + m = facN n → chkS n r m i s f = true → fits s = true → fits f = true → Bx σ 0 (QC (evenQ n)) → Bx σ 1 (QC (-1)) → Bx σ 2 (QC s) → Bx σ 3 (QC f) →
    ∃ σ', exI TT (FI.of Try.f13 (TT.an 13)) K13_0 [(5, .int .i64 n), (6, .int .i64 r), (7, .ptr 0 0), (8, .ptr 1 0), (9, .ptr 2 0), (10, .ptr 3 0), (11, .int .i64 i)] σ = some (.bool true, σ') := by
  intro m
  have cN := fun σ => rf54 n h1 h2 σ [.int .i64 n] rfl
  have hf5 : facN n ≤ 120 := n5 (P := fun n => facN n ≤ 120) (by decide) (by decide) (by decide) (by decide) (by decide) n h1 h2
  induction m with
  | zero =>
    intro i s f σ hi hc hs hf b0 b1 b2 b3
    obtain rfl : i = facN n := by omega
    simp only [chkS, Bool.and_eq_true, decide_eq_true_eq] at hc
    obtain ⟨rfl, q1, q2, q3, q4, q5⟩ := hc
    have d1 := fun σ => r38 (n : Int) (r : Int) σ [.int .i64 n, .int .i64 r] rfl
    have d2 := fun σ => r38 (n : Int) ((r : Int) + 1) σ [.int .i64 n, .int .i64 ((r : Int) + 1)] rfl
    have e1 : valRD (n : Int) (r : Int) = .tup [.agg (QC (rdQ n r)), .bool true] := by
      have : (inR (n : Int) 1 8 && inR (r : Int) 0 5) = true := by rw [Bool.and_eq_true]; exact ⟨inR_iff.2 (by omega), inR_iff.2 (by omega)⟩
      rw [valRD, if_pos this, Int.toNat_natCast, Int.toNat_natCast, frA_yes q3]; rfl
    have e2 : valRD (n : Int) ((r : Int) + 1) = .tup [.agg (QC (rdQ n (r + 1))), .bool true] := by
      have : (inR (n : Int) 1 8 && inR ((r : Int) + 1) 0 5) = true := by rw [Bool.and_eq_true]; exact ⟨inR_iff.2 (by omega), inR_iff.2 (by omega)⟩
      rw [valRD, if_pos this, Int.toNat_natCast, show ((r : Int) + 1).toNat = r + 1 by omega, frA_yes q4]; rfl
    rw [e1] at d1
    rw [e2] at d2
    obtain ⟨σ1, a1, a2, a3, a4⟩ := new_box (σ := σ) (z := [.int .i64 0, .int .i64 0]) (x := QC (rdQ n r)) (m := 2) rfl rfl
    obtain ⟨σ2, g1, g2, g3, g4⟩ := new_box (σ := σ1) (z := [.int .i64 0, .int .i64 0]) (x := QC (rdQ n (r + 1))) (m := 2) rfl rfl
    have k3 := fun σ => r53 hf half_fits q1 σ
    rw [← q2] at k3
    have k4 := fun σ => r46 q3 q4 σ
    rw [decide_eq_false q5] at k4
    exact ⟨σ2, e13 n r (facN n) _ _ _ _ _ _ σ σ1 σ2 cN d1 a1 (wrapA_id (by omega) (by omega)) d2 g1 (((b2.old a3).old g3).rd rfl) ((a2.old g3).rd rfl) (((b3.old a3).old g3).rd rfl) k3 (g2.rd rfl) k4⟩
  | succ m ih =>
    intro i s f σ hi hc hs hf b0 b1 b2 b3
    simp only [chkS, Bool.and_eq_true, decide_eq_true_eq] at hc
    obtain ⟨q1, q2, q3, q4, q5, q6, q7⟩ := hc
    have hi1 : ((i + 1 : Nat) : Int) = (i : Int) + 1 := by omega
    have hw : wrapA .i64 ((i : Int) + 1) = (i : Int) + 1 := wrapA_id (by omega) (by omega)
    have hin : i < facN n := by omega
    have hO := chkO_all n h1 h2
    simp only [chkO, List.all_eq_true, List.mem_range, Bool.and_eq_true, decide_eq_true_eq] at hO
    obtain ⟨o1, o2, o3, o4, o5⟩ := hO i hin
    have c1 := fun σ => (r55 n h1 h2 i hin).pure σ rfl rfl
    have c2 := fun σ => r35 (ordA n i) (by omega) (r : Int) σ [.lst (ordA n i).length (ints (ordA n i)), .int .i64 r] rfl
    have e1 : valRif (ordA n i) (r : Int) = .tup [.agg (QC (xQ n r i)), .bool true] := by
      have : (isO (ordA n i) && inR (r : Int) 0 5) = true := by rw [Bool.and_eq_true]; exact ⟨o1, inR_iff.2 (by omega)⟩
      rw [valRif, if_pos this, Int.toNat_natCast, o2, o3]
      exact frA_yes q1
    rw [e1, o2] at c2
    obtain ⟨σ1, a1, a2, a3, a4⟩ := new_box (σ := σ) (z := [.int .i64 0, .int .i64 0]) (x := QC (xQ n r i)) (m := 2) rfl rfl
    have p0 := b0.lt; have p1 := b1.lt; have p2 := b2.lt; have p3 := b3.lt
    obtain ⟨σ2, g1, g2, g3⟩ := (b2.old a3).st (ws := QC (s + xQ n r i)) rfl rfl
    have x2 := a2.but (b := 2) (by omega) g3
    have y0 := (b0.old a3).but (by decide) g3
    have y1 := (b1.old a3).but (by decide) g3
    have y3 := (b3.old a3).but (by decide) g3
    obtain ⟨σ3, t1, t2, t3, t4⟩ := new_box (σ := σ2) (z := [.int .i64 0, .int .i64 0]) (x := QC (dQ n r i)) (m := 2) rfl rfl
    have c3 := fun σ => r56 hs q1 q3 σ
    have c4 := fun σ => r53 one_fits he hm σ
    have c5 := fun σ => r56 q1 hm q4 σ
    have hσ2 := g3.1
    have hp : σ1.n = σ.n + 1 := a4
    by_cases hd : (dQ n r i).num < 0
    · have hab : (dQ n r i).abs = -1 * dQ n r i := by
        rw [Rat.abs_of_nonpos (by have := (ng_iff (q := dQ n r i)).1 (decide_eq_true hd); exact Rat.le_of_lt this)]
        grind
      rw [hab] at q6 q7
      have c6 := fun σ => r53 one_fits q4 q5 σ
      have c7 := fun σ => r56 hf q5 q6 σ
      obtain ⟨σ4, u1, u2, u3⟩ := t2.st (ws := QC (-1 * dQ n r i)) rfl rfl
      have z0 := (y0.old t3).but (b := σ2.n) (by omega) u3
      have z1 := (y1.old t3).but (b := σ2.n) (by omega) u3
      have z2 := (g2.old t3).but (b := σ2.n) (by omega) u3
      have z3 := (y3.old t3).but (b := σ2.n) (by omega) u3
      obtain ⟨σ5, v1, v2, v3⟩ := z3.st (ws := QC (f + -1 * dQ n r i)) rfl rfl
      obtain ⟨σ', k1⟩ := ih (i + 1) _ _ σ5 (by omega) q7 q3 q6 (z0.but (by decide) v3) (z1.but (by decide) v3) (z2.but (by decide) v3) v2
      rw [hi1] at k1
      refine ⟨σ', ?_⟩
      rw [← k1]
      exact s13n n r (facN n) i n _ _ _ _ _ _ _ _ _ _ _ _ _ _ _ _ _ _ _ _ _ σ σ1 σ2 σ3 σ4 σ5 cN (by omega) c1 c2 a1 a2.rd1 q2 (a2.rd rfl) ((b2.old a3).rd rfl) c3 g1 (x2.rd rfl) (y1.rd rfl) (y0.rd rfl) c4 c5 t1 t2.rd1 hd ((y1.old t3).rd rfl) (t2.rd rfl) c6 u1 (z3.rd rfl) (u2.rd rfl) c7 v1 hw
    · have hab : (dQ n r i).abs = dQ n r i := Rat.abs_of_nonneg (Rat.num_nonneg.1 (by omega))
      rw [hab] at q6 q7
      have c7 := fun σ => r56 hf q4 q6 σ
      obtain ⟨σ5, v1, v2, v3⟩ := (y3.old t3).st (ws := QC (f + dQ n r i)) rfl rfl
      obtain ⟨σ', k1⟩ := ih (i + 1) _ _ σ5 (by omega) q7 q3 q6 ((y0.old t3).but (by decide) v3) ((y1.old t3).but (by decide) v3) ((g2.old t3).but (by decide) v3) v2
      rw [hi1] at k1
      refine ⟨σ', ?_⟩
      rw [← k1]
      exact s13p n r (facN n) i n _ _ _ _ _ _ _ _ _ _ _ _ _ _ _ _ _ _ _ σ σ1 σ2 σ3 σ5 cN (by omega) c1 c2 a1 a2.rd1 q2 (a2.rd rfl) ((b2.old a3).rd rfl) c3 g1 (x2.rd rfl) (y1.rd rfl) (y0.rd rfl) c4 c5 t1 t2.rd1 (Int.not_lt.1 hd) ((y3.old t3).rd rfl) (t2.rd rfl) c7 v1 hw
theorem evenQ_parts : ∀ n : Nat, 1 ≤ n → n ≤ 5 → QC (evenQ n) = [.int .i64 1, .int .i64 (facN n : Nat)] := n5 (by rfl) (by rfl) (by rfl) (by rfl) (by rfl)
theorem w13 (l : List Nat) (hl : ∀ x ∈ l, x < 256) (l2 : List Nat) (hl2 : ∀ x ∈ l2, x < 256) : FnV TT 13 [.lst l.length (byts l), .lst l2.length (byts l2)] (.bool true) := by
  have c1 := fun σ => v39 l.length l2.length (byts l) (byts l2) σ [.lst l.length (byts l), .lst l2.length (byts l2)] rfl
  cases hb : (decide (1048576 < l.length) || decide (1048576 < l2.length)) with
  | true =>
    rw [hb] at c1
    exact FnV.mk fn13 rfl md13 (z13 _ _ _ _ c1) (fun _ => rfl) rfl
  | false =>
    rw [hb] at c1
    obtain ⟨a, ha, c2⟩ := v41 l hl 0 5 (by decide) (by decide)
    obtain ⟨r, hr, c3⟩ := v41 l2 hl2 0 5 (by decide) (by decide)
    have ha5 : a < 5 := by omega
    have hr5 : r < 5 := by omega
    have hchk := chkR_all (1 + a) r (by omega) (by omega) (by omega)
    simp only [chkR, Bool.and_eq_true] at hchk
    obtain ⟨q1, q2, q3⟩ := hchk
    have hw : wrapA .i64 (1 + (a : Int)) = ((1 + a : Nat) : Int) := by rw [wrapA_id (by omega) (by omega)]; omega
    have cN := fun σ => rf54 (1 + a) (by omega) (by omega) σ [.int .i64 (1 + a : Nat)] rfl
    have hpar := evenQ_parts (1 + a) (by omega) (by omega)
    obtain ⟨σ1, a1, a2, a3, a4⟩ := new_box (σ := ⟨[], 0⟩) (z := [.int .i64 0, .int .i64 0]) (x := QC (evenQ (1 + a))) (m := 2) rfl rfl
    obtain ⟨σ2, b1, b2, b3, b4⟩ := new_box (σ := σ1) (z := [.int .i64 0, .int .i64 0]) (x := QC (-1)) (m := 2) rfl rfl
    obtain ⟨σ3, d1, d2, d3, d4⟩ := new_box (σ := σ2) (z := [.int .i64 0, .int .i64 0]) (x := QC 0) (m := 2) rfl rfl
    obtain ⟨σ4, e1, e2, e3, e4⟩ := new_box (σ := σ3) (z := [.int .i64 0, .int .i64 0]) (x := QC 0) (m := 2) rfl rfl
    have n1 : σ1.n = 1 := a4
    have n2 : σ2.n = 2 := by rw [b4, n1]
    have n3 : σ3.n = 3 := by rw [d4, n2]
    rw [n1] at b1 b2
    rw [n2] at d1 d2
    rw [n3] at e1 e2
    obtain ⟨σ', k1⟩ := l13 (1 + a) r (by omega) (by omega) (by omega) q1 q2 (facN (1 + a)) 0 0 0 σ4 (by omega) q3 (by decide +kernel) (by decide +kernel) (((a2.old b3).old d3).old e3) ((b2.old d3).old e3) (d2.old e3) e2
    rw [hpar] at a1
    exact FnV.mk (c := b13) fn13 rfl md13 ⟨σ', (b13e _ _ _ _ a r _ _ σ1 σ2 σ3 σ4 c1 (fun σ => c2 σ _ rfl) hw (fun σ => c3 σ _ rfl) cN a1 n1 b1 n2 d1 n3 e1).trans k1⟩ (fun _ => rfl) rfl

end Go.Proofs.Ytihoeimlkbjgmaa
