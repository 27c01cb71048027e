/- Contracts: all in range, naive shuffles, reservoirs. Nothing is claimed here; no condition. -/
import Derived.Test.YtaniaeefijgaiaaCc
namespace Go.Proofs.Ytaniaeefijgaiaa
open Go Go.Abs
set_option linter.unusedSimpArgs false
set_option linter.unusedVariables false
def allR (l : List Int) (lo hi : Int) : Bool := l.all fun n => inR n lo hi
theorem c102 (n lo hi : Int) (σ : St) (p q : Nat) (x y : Blk) (hp : σ.get p = some x) (hx : x.cells = [.int .i64 lo]) (hq : σ.get q = some y) (hy : y.cells = [.int .i64 hi]) : callI TT 102 [.int .i64 n, .ptr p 0, .ptr q 0] σ = some (.bool (!inR n lo hi), σ) := by
  rw [cI_0 fn102 rfl md102, fi102]
  simp [xI_seq, xI_region, xI_ret, regA, regOps, runOps, opStep, wantedA, opA, evo, evos, calleeA, lk, nif_eq, putE, paramsE, valS, val2, keepE, restrict, finA, resA, binA, binInt, ofConst, ofConst1, loadA, TK.isAgg, asVar, unA, builtinA, lenOpA, lenA, ileb_cast, ileb_eq, ieqb_dec, indexAddrA, inB_dec, evPairs, storeA, AV.cellsOf, pairsOf, xI_nil, binBool, gcE, evOpt, xI_block, xI_loopH, xI_condM, xI_exitM, xI_skip, xI_blk, exitA, ty2, ty4, c69, cellsAt, hp, hx, hq, hy, getCells, takeN, dropN]

noncomputable def b110 : Code := Try.f110.body.getD .skip
noncomputable def B110_0 : Code := (bodyC (bodyC (sndC (fstC (sndC b110)))))
noncomputable def K110_0 : List It := .lp B110_0 :: .blk 0 :: .code (sndC (sndC b110)) :: []
theorem xl110_0 {fi : FI} {env : Env} {σ : St} : exI TT fi K110_0 env σ = exI TT fi (.code B110_0 :: K110_0) env σ := by unfold K110_0; exact xI_lp
noncomputable def R110_0_0 : List It := .code (sndC (sndC b110)) :: []
theorem eK110_0_0 : exitA 0 K110_0 = some R110_0_0 := rfl
theorem l110 (l : List Int) (len : Nat) (hlen : len = l.length) (hs : len < 3000000) (lo hi : Int) (σ : St) (p q : Nat) (x y : Blk) (hp : σ.get p = some x) (hx : x.cells = [.int .i64 lo]) (hq : σ.get q = some y) (hy : y.cells = [.int .i64 hi]) : ∀ (suf pre : List Int), l = pre ++ suf →
    ∃ r : Int, exI TT (FI.of Try.f110 (TT.an 110)) K110_0 [(0, .lst len (ints l)), (1, .fn 102 [] [.ptr p 0, .ptr q 0]), (7, .int .i64 len), (8, .int .i64 pre.length)] σ = some (.int .i64 r, σ) ∧ decide (0 ≤ r) = !allR suf lo hi := by
  intro suf
  induction suf with
  | nil =>
    intro pre hl
    refine ⟨-1, ?_, by simp [allR]⟩
    have hl : len = pre.length := by rw [hlen, hl]; simp
    subst hl
    rw [fi110]
    rw [xl110_0]
    simp only [B110_0, b110, Try.f110, Option.getD, fstC, sndC, bodyC, thnC, elsC]
    simp [xI_seq, xI_region, xI_ret, regA, regOps, runOps, opStep, wantedA, opA, evo, evos, calleeA, lk, nif_eq, putE, paramsE, valS, val2, keepE, restrict, finA, resA, binA, binInt, ofConst, ofConst1, loadA, TK.isAgg, asVar, unA, builtinA, lenOpA, lenA, ileb_cast, ileb_eq, ieqb_dec, indexAddrA, inB_dec, evPairs, storeA, AV.cellsOf, pairsOf, xI_nil, binBool, gcE, evOpt, xI_block, xI_loopH, xI_condM, xI_exitM, xI_skip, xI_blk, exitA, ty2, ty3, ty22, eK110_0_0]
    simp only [R110_0_0, b110, Try.f110, Option.getD, fstC, sndC, bodyC, thnC, elsC]
    simp [xI_seq, xI_region, xI_ret, regA, regOps, runOps, opStep, wantedA, opA, evo, evos, calleeA, lk, nif_eq, putE, paramsE, valS, val2, keepE, restrict, finA, resA, binA, binInt, ofConst, ofConst1, loadA, TK.isAgg, asVar, unA, builtinA, lenOpA, lenA, ileb_cast, ileb_eq, ieqb_dec, indexAddrA, inB_dec, evPairs, storeA, AV.cellsOf, pairsOf, xI_nil, binBool, gcE, evOpt, xI_block, xI_loopH, xI_condM, xI_exitM, xI_skip, xI_blk, exitA, ty2, ty3, ty22, eK110_0_0]
  | cons n suf ih =>
    intro pre hl
    have hll : len = pre.length + (suf.length + 1) := by rw [hlen, hl]; simp
    have hg : l[pre.length]? = some n := by simp [hl]
    obtain ⟨r, h1, h2⟩ := ih (pre ++ [n]) (by simp [hl])
    have hlt : ¬ len ≤ pre.length := by omega
    have hlt2 : pre.length < len := by omega
    have hw := wrapS (n := pre.length) (by omega)
    have hc := c102 n lo hi σ p q x y hp hx hq hy
    simp only [List.length_append, List.length_singleton] at h1
    cases hin : inR n lo hi with
    | true =>
      rw [hin] at hc
      refine ⟨r, ?_, by rw [h2]; simp [allR, hin]⟩
      rw [fi110] at h1 ⊢
      rw [xl110_0]
      simp only [B110_0, b110, Try.f110, Option.getD, fstC, sndC, bodyC, thnC, elsC]
      simp [xI_seq, xI_region, xI_ret, regA, regOps, runOps, opStep, wantedA, opA, evo, evos, calleeA, lk, nif_eq, putE, paramsE, valS, val2, keepE, restrict, finA, resA, binA, binInt, ofConst, ofConst1, loadA, TK.isAgg, asVar, unA, builtinA, lenOpA, lenA, ileb_cast, ileb_eq, ieqb_dec, indexAddrA, inB_dec, evPairs, storeA, AV.cellsOf, pairsOf, xI_nil, binBool, gcE, evOpt, xI_block, xI_loopH, xI_condM, xI_exitM, xI_skip, xI_blk, exitA, ty2, ty3, ty22, eK110_0_0, hw, hlt, hlt2, lst_read hg, hc]
      simpa using h1
    | false =>
      rw [hin] at hc
      refine ⟨pre.length, ?_, by simp [allR, hin]⟩
      rw [fi110]
      rw [xl110_0]
      simp only [B110_0, b110, Try.f110, Option.getD, fstC, sndC, bodyC, thnC, elsC]
      simp [xI_seq, xI_region, xI_ret, regA, regOps, runOps, opStep, wantedA, opA, evo, evos, calleeA, lk, nif_eq, putE, paramsE, valS, val2, keepE, restrict, finA, resA, binA, binInt, ofConst, ofConst1, loadA, TK.isAgg, asVar, unA, builtinA, lenOpA, lenA, ileb_cast, ileb_eq, ieqb_dec, indexAddrA, inB_dec, evPairs, storeA, AV.cellsOf, pairsOf, xI_nil, binBool, gcE, evOpt, xI_block, xI_loopH, xI_condM, xI_exitM, xI_skip, xI_blk, exitA, ty2, ty3, ty22, eK110_0_0, hw, hlt, hlt2, lst_read hg, hc]

theorem c101 (l : List Int) (len : Nat) (hlen : len = l.length) (hs : len < 3000000) (lo hi : Int) (σ : St) (p q : Nat) (x y : Blk) (hp : σ.get p = some x) (hx : x.cells = [.int .i64 lo]) (hq : σ.get q = some y) (hy : y.cells = [.int .i64 hi]) :
    callI TT 101 [.lst len (ints l), .fn 102 [] [.ptr p 0, .ptr q 0]] σ = some (.bool (!allR l lo hi), σ) := by
  obtain ⟨r, h1, h2⟩ := l110 l len hlen hs lo hi σ p q x y hp hx hq hy l [] rfl
  have hc : callI TT 110 [.lst len (ints l), .fn 102 [] [.ptr p 0, .ptr q 0]] σ = some (.int .i64 r, σ) := by
    rw [cI_0 fn110 rfl md110, ← h1, fi110]
    simp [xI_seq, xI_region, xI_ret, regA, regOps, runOps, opStep, wantedA, opA, evo, evos, calleeA, lk, nif_eq, putE, paramsE, valS, val2, keepE, restrict, finA, resA, binA, binInt, ofConst, ofConst1, loadA, TK.isAgg, asVar, unA, builtinA, lenOpA, lenA, ileb_cast, ileb_eq, ieqb_dec, indexAddrA, inB_dec, evPairs, storeA, AV.cellsOf, pairsOf, xI_nil, binBool, gcE, evOpt, xI_block, xI_loopH, xI_condM, xI_exitM, xI_skip, xI_blk, exitA, ty2, ty3, ty22, eK110_0_0]
    rfl
  rw [cI_0 fn101 rfl md101, fi101]
  simp [xI_seq, xI_region, xI_ret, regA, regOps, runOps, opStep, wantedA, opA, evo, evos, calleeA, lk, nif_eq, putE, paramsE, valS, val2, keepE, restrict, finA, resA, binA, binInt, ofConst, ofConst1, loadA, TK.isAgg, asVar, unA, builtinA, lenOpA, lenA, ileb_cast, ileb_eq, ieqb_dec, indexAddrA, inB_dec, evPairs, storeA, AV.cellsOf, pairsOf, xI_nil, binBool, gcE, evOpt, xI_block, xI_loopH, xI_condM, xI_exitM, xI_skip, xI_blk, exitA, ty3, hc, h2]

theorem v78 (l : List Int) (len : Nat) (hlen : len = l.length) (hs : len < 3000000) (lo hi : Int) : FnV TT 78 [.lst len (ints l), .int .i64 lo, .int .i64 hi] (.bool (allR l lo hi)) := by
  have h := c101 l len hlen hs lo hi (((⟨[], 0⟩ : St).push ⟨[.int .i64 lo], 1, false⟩).push ⟨[.int .i64 hi], 1, false⟩) 0 1 _ _ rfl rfl rfl rfl
  refine FnV.mk fn78 rfl md78 ⟨((⟨[], 0⟩ : St).push ⟨[.int .i64 lo], 1, false⟩).push ⟨[.int .i64 hi], 1, false⟩, ?_⟩ (fun _ => rfl) rfl
  rw [fi78]
  simp [xI_seq, xI_region, xI_ret, regA, regOps, runOps, opStep, wantedA, opA, evo, evos, calleeA, lk, nif_eq, putE, paramsE, valS, val2, keepE, restrict, finA, resA, binA, binInt, ofConst, ofConst1, loadA, TK.isAgg, asVar, unA, builtinA, lenOpA, lenA, ileb_cast, ileb_eq, ieqb_dec, indexAddrA, inB_dec, evPairs, storeA, AV.cellsOf, pairsOf, xI_nil, binBool, gcE, evOpt, xI_block, xI_loopH, xI_condM, xI_exitM, xI_skip, xI_blk, exitA, ty2, ty4, h, allOne, AV.one, n_push]

def naive : List Int → Nat → List Int → List Int
  | [], _, out => out
  | c :: r, k, out => naive r (k + 1) (swp out k c.toNat)
theorem naive_length : ∀ (cs : List Int) (k : Nat) (out : List Int), (naive cs k out).length = out.length
  | [], _, _ => rfl
  | c :: r, k, out => by rw [naive, naive_length r, swp_length]

noncomputable def b79 : Code := Try.f79.body.getD .skip
noncomputable def B79_0 : Code := (bodyC (bodyC (sndC (fstC (sndC (sndC b79))))))
noncomputable def K79_0 : List It := .lp B79_0 :: .blk 0 :: .code (sndC (sndC (sndC b79))) :: []
theorem xl79_0 {fi : FI} {env : Env} {σ : St} : exI TT fi K79_0 env σ = exI TT fi (.code B79_0 :: K79_0) env σ := by unfold K79_0; exact xI_lp
noncomputable def R79_0_0 : List It := .code (sndC (sndC (sndC b79))) :: []
theorem eK79_0_0 : exitA 0 K79_0 = some R79_0_0 := rfl
theorem l79 (cs : List Int) (n : Nat) (hn : n = cs.length) (hs : n < 3000000) (hall : ∀ c ∈ cs, 0 ≤ c ∧ c < n) : ∀ (suf pre : List Int) (σ : St) (b : Nat) (out : List Int), cs = pre ++ suf → out.length = n → Row σ b out →
    ∃ σ', exI TT (FI.of Try.f79 (TT.an 79)) K79_0 [(3, .sl b 0 n n), (9, .lst n (ints cs)), (10, .int .i64 n), (11, .int .i64 pre.length)] σ = some (.sl b 0 n n, σ') ∧ Row σ' b (naive suf pre.length out) := by
  intro suf
  induction suf with
  | nil =>
    intro pre σ b out hc ho hr
    have hl : n = pre.length := by rw [hn, hc]; simp
    subst hl
    refine ⟨σ, ?_, hr⟩
    rw [fi79]
    rw [xl79_0]
    simp only [B79_0, b79, Try.f79, Option.getD, fstC, sndC, bodyC, thnC, elsC]
    simp [xI_seq, xI_region, xI_ret, regA, regOps, runOps, opStep, wantedA, opA, evo, evos, calleeA, lk, nif_eq, putE, paramsE, valS, val2, keepE, restrict, finA, resA, binA, binInt, ofConst, ofConst1, loadA, TK.isAgg, asVar, unA, builtinA, lenOpA, lenA, ileb_cast, ileb_eq, ieqb_dec, indexAddrA, inB_dec, evPairs, storeA, AV.cellsOf, pairsOf, xI_nil, binBool, gcE, evOpt, xI_block, xI_loopH, xI_condM, xI_exitM, xI_skip, xI_blk, exitA, ty2, ty3, ty22, eK79_0_0]
    simp only [R79_0_0, b79, Try.f79, Option.getD, fstC, sndC, bodyC, thnC, elsC]
    simp [xI_seq, xI_region, xI_ret, regA, regOps, runOps, opStep, wantedA, opA, evo, evos, calleeA, lk, nif_eq, putE, paramsE, valS, val2, keepE, restrict, finA, resA, binA, binInt, ofConst, ofConst1, loadA, TK.isAgg, asVar, unA, builtinA, lenOpA, lenA, ileb_cast, ileb_eq, ieqb_dec, indexAddrA, inB_dec, evPairs, storeA, AV.cellsOf, pairsOf, xI_nil, binBool, gcE, evOpt, xI_block, xI_loopH, xI_condM, xI_exitM, xI_skip, xI_blk, exitA, ty2, ty3, ty22, eK79_0_0]
  | cons c suf ih =>
    intro pre σ b out hc ho hr
    have hl : n = pre.length + (suf.length + 1) := by rw [hn, hc]; simp
    have hg : cs[pre.length]? = some c := by simp [hc]
    have hcm := hall c (by simp [hc])
    obtain ⟨cc, rfl⟩ : ∃ cc : Nat, c = cc := ⟨c.toNat, by omega⟩
    have hlt : ¬ n ≤ pre.length := by omega
    have hlt2 : pre.length < n := by omega
    have hcn : cc < n := by omega
    have hw := wrapS (n := pre.length) (by omega)
    obtain ⟨σ1, s1, r1, n1, o1⟩ := store_row (i := pre.length) (x := out.getD cc 0) hr (by omega)
    obtain ⟨σ2, s2, r2, n2, o2⟩ := store_row (i := cc) (x := out.getD pre.length 0) r1 (by simp; omega)
    have g1 := hr.read (getD_get (l := out) (i := pre.length) (by omega))
    have g2 := hr.read (getD_get (l := out) (i := cc) (by omega))
    simp only [List.getD_eq_getElem?_getD] at s1 s2 g1 g2
    obtain ⟨σ', h1, h2⟩ := ih (pre ++ [(cc : Int)]) σ2 b (swp out pre.length cc) (by simp [hc]) (by simp [swp_length, ho]) r2
    refine ⟨σ', ?_, by simpa [naive] using h2⟩
    rw [fi79] at h1 ⊢
    rw [xl79_0]
    simp only [B79_0, b79, Try.f79, Option.getD, fstC, sndC, bodyC, thnC, elsC]
    simp [xI_seq, xI_region, xI_ret, regA, regOps, runOps, opStep, wantedA, opA, evo, evos, calleeA, lk, nif_eq, putE, paramsE, valS, val2, keepE, restrict, finA, resA, binA, binInt, ofConst, ofConst1, loadA, TK.isAgg, asVar, unA, builtinA, lenOpA, lenA, ileb_cast, ileb_eq, ieqb_dec, indexAddrA, inB_dec, evPairs, storeA, AV.cellsOf, pairsOf, xI_nil, binBool, gcE, evOpt, xI_block, xI_loopH, xI_condM, xI_exitM, xI_skip, xI_blk, exitA, ty2, ty3, ty22, eK79_0_0, hw, hlt, hlt2, lst_read hg, g1, g2, s1, s2, hcn]
    simpa using h1

theorem s79 (cs : List Int) (n : Nat) (hn : n = cs.length) (hs : n < 3000000) (hall : ∀ c ∈ cs, 0 ≤ c ∧ c < n) : FnS TT 79 [.lst n (ints cs)] (naive cs 0 (iotaF 0 n)) := by
  obtain ⟨b, σ1, hA, rA, _, eb⟩ := (s68 n (by omega)).row (σ := ⟨[], 0⟩) (args := [.int .i64 n]) rfl
  rw [iotaF_length] at hA
  obtain ⟨σ', h1, o, h2, _⟩ := l79 cs n hn hs hall cs [] σ1 b _ rfl (iotaF_length _ _) rA
  have hL : ∀ σ, callI TT 75 [.lst n (ints cs)] σ = some (.int .i64 n, σ) := fun σ => v75 cs n σ _ rfl
  refine FnS.mk fn79 rfl md79 ⟨σ', b, o, ?_, h2⟩
  rw [naive_length, iotaF_length, ← h1, fi79]
  simp [xI_seq, xI_region, xI_ret, regA, regOps, runOps, opStep, wantedA, opA, evo, evos, calleeA, lk, nif_eq, putE, paramsE, valS, val2, keepE, restrict, finA, resA, binA, binInt, ofConst, ofConst1, loadA, TK.isAgg, asVar, unA, builtinA, lenOpA, lenA, ileb_cast, ileb_eq, ieqb_dec, indexAddrA, inB_dec, evPairs, storeA, AV.cellsOf, pairsOf, xI_nil, binBool, gcE, evOpt, xI_block, xI_loopH, xI_condM, xI_exitM, xI_skip, xI_blk, exitA, ty2, ty3, ty22, eK79_0_0, hA, hL]
  rfl

noncomputable def b77 : Code := Try.f77.body.getD .skip
noncomputable def B77_0 : Code := (bodyC (bodyC (sndC (fstC (sndC (sndC b77))))))
noncomputable def K77_0 : List It := .lp B77_0 :: .blk 0 :: .code (sndC (sndC (sndC b77))) :: []
theorem xl77_0 {fi : FI} {env : Env} {σ : St} : exI TT fi K77_0 env σ = exI TT fi (.code B77_0 :: K77_0) env σ := by unfold K77_0; exact xI_lp
noncomputable def R77_0_0 : List It := .code (sndC (sndC (sndC b77))) :: []
theorem eK77_0_0 : exitA 0 K77_0 = some R77_0_0 := rfl
theorem l77 (cs : List Int) (n : Nat) (hn : n = cs.length) (hs : n < 3000000) (hall : ∀ c ∈ cs, 0 ≤ c ∧ c < n) : ∀ (suf pre : List Int) (σ : St) (b : Nat) (out : List Int), cs = pre ++ suf → out.length = n → Row σ b out →
    ∃ σ', exI TT (FI.of Try.f77 (TT.an 77)) K77_0 [(0, .lst n (ints cs)), (3, .sl b 0 n n), (4, .int .i64 pre.length)] σ = some (.sl b 0 n n, σ') ∧ Row σ' b (naive suf pre.length out) := by
  intro suf
  induction suf with
  | nil =>
    intro pre σ b out hc ho hr
    have hl : n = pre.length := by rw [hn, hc]; simp
    subst hl
    refine ⟨σ, ?_, hr⟩
    rw [fi77]
    rw [xl77_0]
    simp only [B77_0, b77, Try.f77, Option.getD, fstC, sndC, bodyC, thnC, elsC]
    simp [xI_seq, xI_region, xI_ret, regA, regOps, runOps, opStep, wantedA, opA, evo, evos, calleeA, lk, nif_eq, putE, paramsE, valS, val2, keepE, restrict, finA, resA, binA, binInt, ofConst, ofConst1, loadA, TK.isAgg, asVar, unA, builtinA, lenOpA, lenA, ileb_cast, ileb_eq, ieqb_dec, indexAddrA, inB_dec, evPairs, storeA, AV.cellsOf, pairsOf, xI_nil, binBool, gcE, evOpt, xI_block, xI_loopH, xI_condM, xI_exitM, xI_skip, xI_blk, exitA, ty2, ty3, ty22, eK77_0_0]
    simp only [R77_0_0, b77, Try.f77, Option.getD, fstC, sndC, bodyC, thnC, elsC]
    simp [xI_seq, xI_region, xI_ret, regA, regOps, runOps, opStep, wantedA, opA, evo, evos, calleeA, lk, nif_eq, putE, paramsE, valS, val2, keepE, restrict, finA, resA, binA, binInt, ofConst, ofConst1, loadA, TK.isAgg, asVar, unA, builtinA, lenOpA, lenA, ileb_cast, ileb_eq, ieqb_dec, indexAddrA, inB_dec, evPairs, storeA, AV.cellsOf, pairsOf, xI_nil, binBool, gcE, evOpt, xI_block, xI_loopH, xI_condM, xI_exitM, xI_skip, xI_blk, exitA, ty2, ty3, ty22, eK77_0_0]
  | cons c suf ih =>
    intro pre σ b out hc ho hr
    have hl : n = pre.length + (suf.length + 1) := by rw [hn, hc]; simp
    have hg : cs[pre.length]? = some c := by simp [hc]
    have hcm := hall c (by simp [hc])
    obtain ⟨cc, rfl⟩ : ∃ cc : Nat, c = cc := ⟨c.toNat, by omega⟩
    have hlt : ¬ n ≤ pre.length := by omega
    have hlt2 : pre.length < n := by omega
    have hcn : cc < n := by omega
    have hw := wrapS (n := pre.length) (by omega)
    obtain ⟨σ2, s2, r2, u2⟩ := m96 σ b n pre.length cc out ho.symm (by omega) (by omega) hr
    obtain ⟨σ', h1, h2⟩ := ih (pre ++ [(cc : Int)]) σ2 b (swp out pre.length cc) (by simp [hc]) (by simp [swp_length, ho]) r2
    refine ⟨σ', ?_, by simpa [naive] using h2⟩
    rw [fi77] at h1 ⊢
    rw [xl77_0]
    simp only [B77_0, b77, Try.f77, Option.getD, fstC, sndC, bodyC, thnC, elsC]
    simp [xI_seq, xI_region, xI_ret, regA, regOps, runOps, opStep, wantedA, opA, evo, evos, calleeA, lk, nif_eq, putE, paramsE, valS, val2, keepE, restrict, finA, resA, binA, binInt, ofConst, ofConst1, loadA, TK.isAgg, asVar, unA, builtinA, lenOpA, lenA, ileb_cast, ileb_eq, ieqb_dec, indexAddrA, inB_dec, evPairs, storeA, AV.cellsOf, pairsOf, xI_nil, binBool, gcE, evOpt, xI_block, xI_loopH, xI_condM, xI_exitM, xI_skip, xI_blk, exitA, ty2, ty3, ty22, eK77_0_0, hw, hlt, hlt2, lst_read hg, s2]
    simpa using h1

theorem s77 (cs : List Int) (n : Nat) (hn : n = cs.length) (hs : n < 3000000) (hall : ∀ c ∈ cs, 0 ≤ c ∧ c < n) : FnS TT 77 [.lst n (ints cs)] (naive cs 0 (iotaF 0 n)) := by
  obtain ⟨b, σ1, hA, rA, _, eb⟩ := (s65 n (by omega)).row (σ := ⟨[], 0⟩) (args := [.int .i64 n]) rfl
  rw [iotaF_length] at hA
  obtain ⟨σ', h1, o, h2, _⟩ := l77 cs n hn hs hall cs [] σ1 b _ rfl (iotaF_length _ _) rA
  have hL : ∀ σ, callI TT 75 [.lst n (ints cs)] σ = some (.int .i64 n, σ) := fun σ => v75 cs n σ _ rfl
  refine FnS.mk fn77 rfl md77 ⟨σ', b, o, ?_, h2⟩
  rw [naive_length, iotaF_length, ← h1, fi77]
  simp [xI_seq, xI_region, xI_ret, regA, regOps, runOps, opStep, wantedA, opA, evo, evos, calleeA, lk, nif_eq, putE, paramsE, valS, val2, keepE, restrict, finA, resA, binA, binInt, ofConst, ofConst1, loadA, TK.isAgg, asVar, unA, builtinA, lenOpA, lenA, ileb_cast, ileb_eq, ieqb_dec, indexAddrA, inB_dec, evPairs, storeA, AV.cellsOf, pairsOf, xI_nil, binBool, gcE, evOpt, xI_block, xI_loopH, xI_condM, xI_exitM, xI_skip, xI_blk, exitA, ty2, ty3, ty22, eK77_0_0, hA, hL]
  rfl

def naiveR (cs : List Int) : Option (List Int) := if inR cs.length 1 12 = true ∧ allR cs 0 ((cs.length : Int) - 1) = true then some (naive cs 0 (iotaF 0 cs.length)) else none
theorem allR_spec {l : List Int} {lo hi : Int} (h : allR l lo hi = true) : ∀ c ∈ l, lo ≤ c ∧ c ≤ hi := fun c hc => inR_iff.1 (List.all_eq_true.1 h c hc)

theorem o33 (cs : List Int) (hs : cs.length < 2000000) : FnO TT 33 [.lst cs.length (ints cs)] (naiveR cs) := by
  have hL : ∀ σ, callI TT 75 [.lst cs.length (ints cs)] σ = some (.int .i64 cs.length, σ) := fun σ => v75 cs cs.length σ _ rfl
  have hA : ∀ σ, callI TT 78 [.lst cs.length (ints cs), .int .i64 0, .int .i64 ((cs.length : Int) - 1)] σ = some (.bool (allR cs 0 ((cs.length : Int) - 1)), σ) := fun σ => v78 cs cs.length rfl (by omega) 0 _ σ _ rfl
  have hw : wrapA .i64 ((cs.length : Int) - 1) = (cs.length : Int) - 1 := wrapA_id (by omega) (by omega)
  cases h1 : inR cs.length 1 12 with
  | false =>
    have hr : naiveR cs = none := by simp [naiveR, h1]
    rw [hr]
    refine FnO.mkN fn33 rfl md33 ⟨⟨[], 0⟩, ?_⟩
    rw [fi33]
    simp [xI_seq, xI_region, xI_ret, regA, regOps, runOps, opStep, wantedA, opA, evo, evos, calleeA, lk, nif_eq, putE, paramsE, valS, val2, keepE, restrict, finA, resA, binA, binInt, ofConst, ofConst1, loadA, TK.isAgg, asVar, unA, builtinA, lenOpA, lenA, ileb_cast, ileb_eq, ieqb_dec, indexAddrA, inB_dec, evPairs, storeA, AV.cellsOf, pairsOf, xI_nil, binBool, gcE, evOpt, xI_block, xI_loopH, xI_condM, xI_exitM, xI_skip, xI_blk, exitA, ty2, ty4, hL, c67, h1]
  | true =>
    cases h2 : allR cs 0 ((cs.length : Int) - 1) with
    | false =>
      have hr : naiveR cs = none := by simp [naiveR, h2]
      rw [hr]
      refine FnO.mkN fn33 rfl md33 ⟨⟨[], 0⟩, ?_⟩
      rw [fi33]
      simp [xI_seq, xI_region, xI_ret, regA, regOps, runOps, opStep, wantedA, opA, evo, evos, calleeA, lk, nif_eq, putE, paramsE, valS, val2, keepE, restrict, finA, resA, binA, binInt, ofConst, ofConst1, loadA, TK.isAgg, asVar, unA, builtinA, lenOpA, lenA, ileb_cast, ileb_eq, ieqb_dec, indexAddrA, inB_dec, evPairs, storeA, AV.cellsOf, pairsOf, xI_nil, binBool, gcE, evOpt, xI_block, xI_loopH, xI_condM, xI_exitM, xI_skip, xI_blk, exitA, ty2, ty4, hL, c67, h1, hA, h2, hw]
    | true =>
      have hr : naiveR cs = some (naive cs 0 (iotaF 0 cs.length)) := by simp [naiveR, h1, h2]
      rw [hr]
      obtain ⟨b, σ1, hB, ⟨o, hb, _⟩, _, _⟩ := (s79 cs cs.length rfl (by omega) (fun c hc => by have := allR_spec h2 c hc; omega)).row (σ := ⟨[], 0⟩) (args := [.lst cs.length (ints cs)]) rfl
      refine FnO.mkS fn33 rfl md33 ⟨σ1, b, o, ?_, hb⟩
      rw [fi33]
      simp [xI_seq, xI_region, xI_ret, regA, regOps, runOps, opStep, wantedA, opA, evo, evos, calleeA, lk, nif_eq, putE, paramsE, valS, val2, keepE, restrict, finA, resA, binA, binInt, ofConst, ofConst1, loadA, TK.isAgg, asVar, unA, builtinA, lenOpA, lenA, ileb_cast, ileb_eq, ieqb_dec, indexAddrA, inB_dec, evPairs, storeA, AV.cellsOf, pairsOf, xI_nil, binBool, gcE, evOpt, xI_block, xI_loopH, xI_condM, xI_exitM, xI_skip, xI_blk, exitA, ty2, ty4, hL, c67, h1, hA, h2, hw, hB]

noncomputable def b32 : Code := Try.f32.body.getD .skip
noncomputable def B32_0 : Code := (bodyC (bodyC (sndC (fstC (sndC (sndC (sndC b32)))))))
noncomputable def K32_0 : List It := .lp B32_0 :: .blk 0 :: .code (sndC (sndC (sndC (sndC b32)))) :: []
theorem xl32_0 {fi : FI} {env : Env} {σ : St} : exI TT fi K32_0 env σ = exI TT fi (.code B32_0 :: K32_0) env σ := by unfold K32_0; exact xI_lp
noncomputable def R32_0_0 : List It := .code (sndC (sndC (sndC (sndC b32)))) :: []
theorem eK32_0_0 : exitA 0 K32_0 = some R32_0_0 := rfl
theorem l32 (cs : List Int) (n : Nat) (hn : n = cs.length) (hs : n < 3000000) (σ : St) : ∀ (suf pre : List Int), cs = pre ++ suf →
    exI TT (FI.of Try.f32 (TT.an 32)) K32_0 [(0, .lst n (ints cs)), (4, .int .i64 n), (5, .int .i64 pre.length)] σ = if allR suf 0 ((n : Int) - 1) = true then exI TT (FI.of Try.f32 (TT.an 32)) R32_0_0 [(0, .lst n (ints cs)), (4, .int .i64 n), (5, .int .i64 n), (14, .bool false)] σ else some (.tup [.nilS, .bool false], σ) := by
  intro suf
  induction suf with
  | nil =>
    intro pre hc
    have hl : n = pre.length := by rw [hn, hc]; simp
    subst hl
    rw [fi32]
    rw [xl32_0]
    simp only [B32_0, b32, Try.f32, Option.getD, fstC, sndC, bodyC, thnC, elsC]
    simp [xI_seq, xI_region, xI_ret, regA, regOps, runOps, opStep, wantedA, opA, evo, evos, calleeA, lk, nif_eq, putE, paramsE, valS, val2, keepE, restrict, finA, resA, binA, binInt, ofConst, ofConst1, loadA, TK.isAgg, asVar, unA, builtinA, lenOpA, lenA, ileb_cast, ileb_eq, ieqb_dec, indexAddrA, inB_dec, evPairs, storeA, AV.cellsOf, pairsOf, xI_nil, binBool, gcE, evOpt, xI_block, xI_loopH, xI_condM, xI_exitM, xI_skip, xI_blk, exitA, ty2, ty3, ty4, ty22, eK32_0_0, allR]
  | cons c suf ih =>
    intro pre hc
    have hl : n = pre.length + (suf.length + 1) := by rw [hn, hc]; simp
    have hg : cs[pre.length]? = some c := by simp [hc]
    have hlt : ¬ n ≤ pre.length := by omega
    have hlt2 : pre.length < n := by omega
    have hw := wrapS (n := pre.length) (by omega)
    have hw1 : wrapA .i64 ((n : Int) - 1) = (n : Int) - 1 := wrapA_id (by omega) (by omega)
    have h1 := ih (pre ++ [c]) (by simp [hc])
    simp only [List.length_append, List.length_singleton] at h1
    cases hin : inR c 0 ((n : Int) - 1) with
    | true =>
      have ha : allR (c :: suf) 0 ((n : Int) - 1) = allR suf 0 ((n : Int) - 1) := by simp [allR, hin]
      rw [ha]
      rw [fi32] at h1 ⊢
      rw [xl32_0]
      simp only [B32_0, b32, Try.f32, Option.getD, fstC, sndC, bodyC, thnC, elsC]
      simp [xI_seq, xI_region, xI_ret, regA, regOps, runOps, opStep, wantedA, opA, evo, evos, calleeA, lk, nif_eq, putE, paramsE, valS, val2, keepE, restrict, finA, resA, binA, binInt, ofConst, ofConst1, loadA, TK.isAgg, asVar, unA, builtinA, lenOpA, lenA, ileb_cast, ileb_eq, ieqb_dec, indexAddrA, inB_dec, evPairs, storeA, AV.cellsOf, pairsOf, xI_nil, binBool, gcE, evOpt, xI_block, xI_loopH, xI_condM, xI_exitM, xI_skip, xI_blk, exitA, ty2, ty3, ty4, ty22, eK32_0_0, hw, hw1, hlt, hlt2, lst_read hg, c66, hin]
      simpa using h1
    | false =>
      have ha : allR (c :: suf) 0 ((n : Int) - 1) = false := by simp [allR, hin]
      rw [ha]
      rw [fi32]
      rw [xl32_0]
      simp only [B32_0, b32, Try.f32, Option.getD, fstC, sndC, bodyC, thnC, elsC]
      simp [xI_seq, xI_region, xI_ret, regA, regOps, runOps, opStep, wantedA, opA, evo, evos, calleeA, lk, nif_eq, putE, paramsE, valS, val2, keepE, restrict, finA, resA, binA, binInt, ofConst, ofConst1, loadA, TK.isAgg, asVar, unA, builtinA, lenOpA, lenA, ileb_cast, ileb_eq, ieqb_dec, indexAddrA, inB_dec, evPairs, storeA, AV.cellsOf, pairsOf, xI_nil, binBool, gcE, evOpt, xI_block, xI_loopH, xI_condM, xI_exitM, xI_skip, xI_blk, exitA, ty2, ty3, ty4, ty22, eK32_0_0, hw, hw1, hlt, hlt2, lst_read hg, c66, hin]
theorem o32 (cs : List Int) (hs : cs.length < 2000000) : FnO TT 32 [.lst cs.length (ints cs)] (naiveR cs) := by
  cases h1 : inR cs.length 1 12 with
  | false =>
    have hr : naiveR cs = none := by simp [naiveR, h1]
    rw [hr]
    refine FnO.mkN fn32 rfl md32 ⟨⟨[], 0⟩, ?_⟩
    rw [fi32]
    simp [xI_seq, xI_region, xI_ret, regA, regOps, runOps, opStep, wantedA, opA, evo, evos, calleeA, lk, nif_eq, putE, paramsE, valS, val2, keepE, restrict, finA, resA, binA, binInt, ofConst, ofConst1, loadA, TK.isAgg, asVar, unA, builtinA, lenOpA, lenA, ileb_cast, ileb_eq, ieqb_dec, indexAddrA, inB_dec, evPairs, storeA, AV.cellsOf, pairsOf, xI_nil, binBool, gcE, evOpt, xI_block, xI_loopH, xI_condM, xI_exitM, xI_skip, xI_blk, exitA, ty2, ty3, ty4, ty22, eK32_0_0, c66, h1]
  | true =>
    have hl := l32 cs cs.length rfl (by omega) ⟨[], 0⟩ cs [] rfl
    cases h2 : allR cs 0 ((cs.length : Int) - 1) with
    | false =>
      have hr : naiveR cs = none := by simp [naiveR, h2]
      rw [hr]
      refine FnO.mkN fn32 rfl md32 ⟨⟨[], 0⟩, ?_⟩
      rw [h2] at hl
      rw [fi32] at hl ⊢
      simp [xI_seq, xI_region, xI_ret, regA, regOps, runOps, opStep, wantedA, opA, evo, evos, calleeA, lk, nif_eq, putE, paramsE, valS, val2, keepE, restrict, finA, resA, binA, binInt, ofConst, ofConst1, loadA, TK.isAgg, asVar, unA, builtinA, lenOpA, lenA, ileb_cast, ileb_eq, ieqb_dec, indexAddrA, inB_dec, evPairs, storeA, AV.cellsOf, pairsOf, xI_nil, binBool, gcE, evOpt, xI_block, xI_loopH, xI_condM, xI_exitM, xI_skip, xI_blk, exitA, ty2, ty3, ty4, ty22, eK32_0_0, c66, h1]
      exact hl
    | true =>
      have hr : naiveR cs = some (naive cs 0 (iotaF 0 cs.length)) := by simp [naiveR, h1, h2]
      rw [hr]
      obtain ⟨b, σ1, hB, ⟨o, hb, _⟩, _, _⟩ := (s77 cs cs.length rfl (by omega) (fun c hc => by have := allR_spec h2 c hc; omega)).row (σ := ⟨[], 0⟩) (args := [.lst cs.length (ints cs)]) rfl
      refine FnO.mkS fn32 rfl md32 ⟨σ1, b, o, ?_, hb⟩
      rw [h2] at hl
      simp only [if_true] at hl
      rw [fi32] at hl ⊢
      simp [xI_seq, xI_region, xI_ret, regA, regOps, runOps, opStep, wantedA, opA, evo, evos, calleeA, lk, nif_eq, putE, paramsE, valS, val2, keepE, restrict, finA, resA, binA, binInt, ofConst, ofConst1, loadA, TK.isAgg, asVar, unA, builtinA, lenOpA, lenA, ileb_cast, ileb_eq, ieqb_dec, indexAddrA, inB_dec, evPairs, storeA, AV.cellsOf, pairsOf, xI_nil, binBool, gcE, evOpt, xI_block, xI_loopH, xI_condM, xI_exitM, xI_skip, xI_blk, exitA, ty2, ty3, ty4, ty22, eK32_0_0, c66, h1]
      refine Eq.trans hl ?_
      simp only [R32_0_0, b32, Try.f32, Option.getD, fstC, sndC, bodyC, thnC, elsC]
      simp [xI_seq, xI_region, xI_ret, regA, regOps, runOps, opStep, wantedA, opA, evo, evos, calleeA, lk, nif_eq, putE, paramsE, valS, val2, keepE, restrict, finA, resA, binA, binInt, ofConst, ofConst1, loadA, TK.isAgg, asVar, unA, builtinA, lenOpA, lenA, ileb_cast, ileb_eq, ieqb_dec, indexAddrA, inB_dec, evPairs, storeA, AV.cellsOf, pairsOf, xI_nil, binBool, gcE, evOpt, xI_block, xI_loopH, xI_condM, xI_exitM, xI_skip, xI_blk, exitA, ty2, ty3, ty4, ty22, eK32_0_0, hB]

def resv (s : Int) : List Int → Nat → List Int → Option (List Int)
  | [], _, out => some out
  | c :: r, k, out => if inR c 0 (s + k) = true then resv s r (k + 1) (if c < s then out.set c.toNat (s + k) else out) else none
theorem resv_length (s : Int) : ∀ (cs : List Int) (k : Nat) (out out' : List Int), resv s cs k out = some out' → out'.length = out.length
  | [], _, out, out', h => by simp [resv] at h; rw [h]
  | c :: r, k, out, out', h => by
    simp only [resv] at h
    split at h
    · rw [resv_length s r _ _ _ h]; split <;> simp
    · cases h
def resvR (s : Int) (cs : List Int) : Option (List Int) := if inR s 1 12 = true ∧ cs.length ≤ 12 then resv s cs 0 (iotaF 0 s.toNat) else none

noncomputable def b22 : Code := Try.f22.body.getD .skip
noncomputable def B22_0 : Code := (bodyC (bodyC (sndC (fstC (sndC (sndC (sndC b22)))))))
noncomputable def K22_0 : List It := .lp B22_0 :: .blk 0 :: .code (sndC (sndC (sndC (sndC b22)))) :: []
theorem xl22_0 {fi : FI} {env : Env} {σ : St} : exI TT fi K22_0 env σ = exI TT fi (.code B22_0 :: K22_0) env σ := by unfold K22_0; exact xI_lp
noncomputable def R22_0_0 : List It := .code (sndC (sndC (sndC (sndC b22)))) :: []
theorem eK22_0_0 : exitA 0 K22_0 = some R22_0_0 := rfl
theorem l22 (cs : List Int) (s : Nat) (hn : cs.length < 3000000) (hs : s < 3000000) : ∀ (suf pre : List Int) (σ : St) (b : Nat) (out : List Int), cs = pre ++ suf → out.length = s → Row σ b out →
    (∀ out', resv s suf pre.length out = some out' → ∃ σ', exI TT (FI.of Try.f22 (TT.an 22)) K22_0 [(0, .int .i64 s), (6, .sl b 0 s s), (20, .lst cs.length (ints cs)), (21, .int .i64 cs.length), (22, .int .i64 pre.length)] σ = some (.tup [.sl b 0 s s, .bool true], σ') ∧ Row σ' b out') ∧
    (resv s suf pre.length out = none → ∃ σ', exI TT (FI.of Try.f22 (TT.an 22)) K22_0 [(0, .int .i64 s), (6, .sl b 0 s s), (20, .lst cs.length (ints cs)), (21, .int .i64 cs.length), (22, .int .i64 pre.length)] σ = some (.tup [.nilS, .bool false], σ')) := by
  intro suf
  induction suf with
  | nil =>
    intro pre σ b out hc ho hr
    have hl : pre = cs := by simpa using hc.symm
    subst hl
    refine ⟨fun out' h => ?_, fun h => by simp [resv] at h⟩
    obtain rfl : out = out' := by simpa [resv] using h
    refine ⟨σ, ?_, hr⟩
    rw [fi22]
    rw [xl22_0]
    simp only [B22_0, b22, Try.f22, Option.getD, fstC, sndC, bodyC, thnC, elsC]
    simp [xI_seq, xI_region, xI_ret, regA, regOps, runOps, opStep, wantedA, opA, evo, evos, calleeA, lk, nif_eq, putE, paramsE, valS, val2, keepE, restrict, finA, resA, binA, binInt, ofConst, ofConst1, loadA, TK.isAgg, asVar, unA, builtinA, lenOpA, lenA, ileb_cast, ileb_eq, ieqb_dec, indexAddrA, inB_dec, evPairs, storeA, AV.cellsOf, pairsOf, xI_nil, binBool, gcE, evOpt, xI_block, xI_loopH, xI_condM, xI_exitM, xI_skip, xI_blk, exitA, ty2, ty3, ty4, ty22, eK22_0_0]
    simp only [R22_0_0, b22, Try.f22, Option.getD, fstC, sndC, bodyC, thnC, elsC]
    simp [xI_seq, xI_region, xI_ret, regA, regOps, runOps, opStep, wantedA, opA, evo, evos, calleeA, lk, nif_eq, putE, paramsE, valS, val2, keepE, restrict, finA, resA, binA, binInt, ofConst, ofConst1, loadA, TK.isAgg, asVar, unA, builtinA, lenOpA, lenA, ileb_cast, ileb_eq, ieqb_dec, indexAddrA, inB_dec, evPairs, storeA, AV.cellsOf, pairsOf, xI_nil, binBool, gcE, evOpt, xI_block, xI_loopH, xI_condM, xI_exitM, xI_skip, xI_blk, exitA, ty2, ty3, ty4, ty22, eK22_0_0]
  | cons c suf ih =>
    intro pre σ b out hc ho hr
    have hl : cs.length = pre.length + (suf.length + 1) := by rw [hc]; simp
    have hg : cs[pre.length]? = some c := by simp [hc]
    have hlt : ¬ cs.length ≤ pre.length := by omega
    have hlt2 : pre.length < cs.length := by omega
    have hw := wrapS (n := pre.length) (by omega)
    have hw1 : wrapA .i64 ((s : Int) + pre.length) = (s : Int) + pre.length := wrapA_id (by omega) (by omega)
    cases hin : inR c 0 ((s : Int) + pre.length) with
    | false =>
      have hsh : resv s (c :: suf) pre.length out = none := by simp [resv, hin]
      refine ⟨fun out' h => (by rw [hsh] at h; cases h), fun _ => ⟨σ, ?_⟩⟩
      rw [fi22]
      rw [xl22_0]
      simp only [B22_0, b22, Try.f22, Option.getD, fstC, sndC, bodyC, thnC, elsC]
      simp [xI_seq, xI_region, xI_ret, regA, regOps, runOps, opStep, wantedA, opA, evo, evos, calleeA, lk, nif_eq, putE, paramsE, valS, val2, keepE, restrict, finA, resA, binA, binInt, ofConst, ofConst1, loadA, TK.isAgg, asVar, unA, builtinA, lenOpA, lenA, ileb_cast, ileb_eq, ieqb_dec, indexAddrA, inB_dec, evPairs, storeA, AV.cellsOf, pairsOf, xI_nil, binBool, gcE, evOpt, xI_block, xI_loopH, xI_condM, xI_exitM, xI_skip, xI_blk, exitA, ty2, ty3, ty4, ty22, eK22_0_0, hw, hw1, hlt, hlt2, lst_read hg, c69, hin]
    | true =>
      obtain ⟨cc, rfl⟩ : ∃ cc : Nat, c = cc := ⟨c.toNat, by have := inR_iff.1 hin; omega⟩
      by_cases hcs : cc < s
      · obtain ⟨σ2, s2, r2, n2, o2⟩ := store_row (i := cc) (x := (s : Int) + pre.length) hr (by omega)
        have hsh : resv s ((cc : Int) :: suf) pre.length out = resv s suf (pre.length + 1) (out.set cc ((s : Int) + pre.length)) := by
          simp only [resv, hin, if_true, if_pos (show (cc : Int) < s by omega)]; simp
        rw [hsh]
        have ih1 := ih (pre ++ [(cc : Int)]) σ2 b _ (by simp [hc]) (by simp [ho]) r2
        simp only [List.length_append, List.length_singleton] at ih1
        have hcs2 : ¬ s ≤ cc := by omega
        rw [fi22] at ih1 ⊢
        rw [xl22_0]
        simp only [B22_0, b22, Try.f22, Option.getD, fstC, sndC, bodyC, thnC, elsC]
        simp [xI_seq, xI_region, xI_ret, regA, regOps, runOps, opStep, wantedA, opA, evo, evos, calleeA, lk, nif_eq, putE, paramsE, valS, val2, keepE, restrict, finA, resA, binA, binInt, ofConst, ofConst1, loadA, TK.isAgg, asVar, unA, builtinA, lenOpA, lenA, ileb_cast, ileb_eq, ieqb_dec, indexAddrA, inB_dec, evPairs, storeA, AV.cellsOf, pairsOf, xI_nil, binBool, gcE, evOpt, xI_block, xI_loopH, xI_condM, xI_exitM, xI_skip, xI_blk, exitA, ty2, ty3, ty4, ty22, eK22_0_0, hw, hw1, hlt, hlt2, lst_read hg, c69, hin, hcs, hcs2, s2]
        simpa using ih1
      · have hsh : resv s ((cc : Int) :: suf) pre.length out = resv s suf (pre.length + 1) out := by
          simp only [resv, hin, if_true, if_neg (show ¬ (cc : Int) < s by omega)]
        rw [hsh]
        have ih1 := ih (pre ++ [(cc : Int)]) σ b _ (by simp [hc]) ho hr
        simp only [List.length_append, List.length_singleton] at ih1
        have hcs2 : s ≤ cc := by omega
        rw [fi22] at ih1 ⊢
        rw [xl22_0]
        simp only [B22_0, b22, Try.f22, Option.getD, fstC, sndC, bodyC, thnC, elsC]
        simp [xI_seq, xI_region, xI_ret, regA, regOps, runOps, opStep, wantedA, opA, evo, evos, calleeA, lk, nif_eq, putE, paramsE, valS, val2, keepE, restrict, finA, resA, binA, binInt, ofConst, ofConst1, loadA, TK.isAgg, asVar, unA, builtinA, lenOpA, lenA, ileb_cast, ileb_eq, ieqb_dec, indexAddrA, inB_dec, evPairs, storeA, AV.cellsOf, pairsOf, xI_nil, binBool, gcE, evOpt, xI_block, xI_loopH, xI_condM, xI_exitM, xI_skip, xI_blk, exitA, ty2, ty3, ty4, ty22, eK22_0_0, hw, hw1, hlt, hlt2, lst_read hg, c69, hin, hcs2]
        simpa using ih1
theorem o22 (s : Int) (cs : List Int) (hs : cs.length < 2000000) : FnO TT 22 [.int .i64 s, .lst cs.length (ints cs)] (resvR s cs) := by
  cases h1 : inR s 1 12 with
  | false =>
    have hr : resvR s cs = none := by simp [resvR, h1]
    rw [hr]
    refine FnO.mkN fn22 rfl md22 ⟨⟨[], 0⟩, ?_⟩
    rw [fi22]
    simp [xI_seq, xI_region, xI_ret, regA, regOps, runOps, opStep, wantedA, opA, evo, evos, calleeA, lk, nif_eq, putE, paramsE, valS, val2, keepE, restrict, finA, resA, binA, binInt, ofConst, ofConst1, loadA, TK.isAgg, asVar, unA, builtinA, lenOpA, lenA, ileb_cast, ileb_eq, ieqb_dec, indexAddrA, inB_dec, evPairs, storeA, AV.cellsOf, pairsOf, xI_nil, binBool, gcE, evOpt, xI_block, xI_loopH, xI_condM, xI_exitM, xI_skip, xI_blk, exitA, ty2, ty3, ty4, ty22, eK22_0_0, c67, h1]
  | true =>
    by_cases h2 : cs.length ≤ 12
    · obtain ⟨m, rfl⟩ : ∃ m : Nat, s = m := ⟨s.toNat, by have := inR_iff.1 h1; omega⟩
      have hm := inR_iff.1 h1
      have hr : resvR m cs = resv m cs 0 (iotaF 0 m) := by simp [resvR, h1, h2]
      have h2' : (cs.length : Int) ≤ 12 := by omega
      obtain ⟨b, σ1, hA, rA, _, eb⟩ := (s68 m (by omega)).row (σ := ⟨[], 0⟩) (args := [.int .i64 m]) rfl
      rw [iotaF_length] at hA
      obtain ⟨k1, k2⟩ := l22 cs m (by omega) (by omega) cs [] σ1 b _ rfl (iotaF_length _ _) rA
      cases hx : resvR m cs with
      | none =>
        obtain ⟨σ', h3⟩ := k2 (by rw [← hx, hr]; rfl)
        refine FnO.mkN fn22 rfl md22 ⟨σ', ?_⟩
        rw [← h3, fi22]
        simp [xI_seq, xI_region, xI_ret, regA, regOps, runOps, opStep, wantedA, opA, evo, evos, calleeA, lk, nif_eq, putE, paramsE, valS, val2, keepE, restrict, finA, resA, binA, binInt, ofConst, ofConst1, loadA, TK.isAgg, asVar, unA, builtinA, lenOpA, lenA, ileb_cast, ileb_eq, ieqb_dec, indexAddrA, inB_dec, evPairs, storeA, AV.cellsOf, pairsOf, xI_nil, binBool, gcE, evOpt, xI_block, xI_loopH, xI_condM, xI_exitM, xI_skip, xI_blk, exitA, ty2, ty3, ty4, ty22, eK22_0_0, c67, h1, h2', hA]
        rfl
      | some out =>
        obtain ⟨σ', h3, o, h4, _⟩ := k1 out (by rw [← hx, hr]; rfl)
        have hlo : out.length = m := by rw [hr] at hx; rw [resv_length _ _ _ _ _ hx, iotaF_length]
        refine FnO.mkS fn22 rfl md22 ⟨σ', b, o, ?_, h4⟩
        rw [hlo, ← h3, fi22]
        simp [xI_seq, xI_region, xI_ret, regA, regOps, runOps, opStep, wantedA, opA, evo, evos, calleeA, lk, nif_eq, putE, paramsE, valS, val2, keepE, restrict, finA, resA, binA, binInt, ofConst, ofConst1, loadA, TK.isAgg, asVar, unA, builtinA, lenOpA, lenA, ileb_cast, ileb_eq, ieqb_dec, indexAddrA, inB_dec, evPairs, storeA, AV.cellsOf, pairsOf, xI_nil, binBool, gcE, evOpt, xI_block, xI_loopH, xI_condM, xI_exitM, xI_skip, xI_blk, exitA, ty2, ty3, ty4, ty22, eK22_0_0, c67, h1, h2', hA]
        rfl
    · have hr : resvR s cs = none := by simp [resvR, h2]
      have h2' : ¬ (cs.length : Int) ≤ 12 := by omega
      rw [hr]
      refine FnO.mkN fn22 rfl md22 ⟨⟨[], 0⟩, ?_⟩
      rw [fi22]
      simp [xI_seq, xI_region, xI_ret, regA, regOps, runOps, opStep, wantedA, opA, evo, evos, calleeA, lk, nif_eq, putE, paramsE, valS, val2, keepE, restrict, finA, resA, binA, binInt, ofConst, ofConst1, loadA, TK.isAgg, asVar, unA, builtinA, lenOpA, lenA, ileb_cast, ileb_eq, ieqb_dec, indexAddrA, inB_dec, evPairs, storeA, AV.cellsOf, pairsOf, xI_nil, binBool, gcE, evOpt, xI_block, xI_loopH, xI_condM, xI_exitM, xI_skip, xI_blk, exitA, ty2, ty3, ty4, ty22, eK22_0_0, c67, h1, h2']

noncomputable def b20 : Code := Try.f20.body.getD .skip
noncomputable def B20_0 : Code := (bodyC (bodyC (sndC (fstC (sndC (sndC (sndC b20)))))))
noncomputable def K20_0 : List It := .lp B20_0 :: .blk 0 :: .code (sndC (sndC (sndC (sndC b20)))) :: []
theorem xl20_0 {fi : FI} {env : Env} {σ : St} : exI TT fi K20_0 env σ = exI TT fi (.code B20_0 :: K20_0) env σ := by unfold K20_0; exact xI_lp
noncomputable def R20_0_0 : List It := .code (sndC (sndC (sndC (sndC b20)))) :: []
theorem eK20_0_0 : exitA 0 K20_0 = some R20_0_0 := rfl
theorem l20 (cs : List Int) (s : Nat) (hn : cs.length < 3000000) (hs : s < 3000000) : ∀ (suf pre : List Int) (σ : St) (b : Nat) (out : List Int), cs = pre ++ suf → out.length = s → Row σ b out →
    (∀ out', resv s suf pre.length out = some out' → ∃ σ', exI TT (FI.of Try.f20 (TT.an 20)) K20_0 [(0, .int .i64 s), (1, .lst cs.length (ints cs)), (6, .sl b 0 s s), (7, .int .i64 pre.length)] σ = some (.tup [.sl b 0 s s, .bool true], σ') ∧ Row σ' b out') ∧
    (resv s suf pre.length out = none → ∃ σ', exI TT (FI.of Try.f20 (TT.an 20)) K20_0 [(0, .int .i64 s), (1, .lst cs.length (ints cs)), (6, .sl b 0 s s), (7, .int .i64 pre.length)] σ = some (.tup [.nilS, .bool false], σ')) := by
  intro suf
  induction suf with
  | nil =>
    intro pre σ b out hc ho hr
    have hl : pre = cs := by simpa using hc.symm
    subst hl
    refine ⟨fun out' h => ?_, fun h => by simp [resv] at h⟩
    obtain rfl : out = out' := by simpa [resv] using h
    refine ⟨σ, ?_, hr⟩
    rw [fi20]
    rw [xl20_0]
    simp only [B20_0, b20, Try.f20, Option.getD, fstC, sndC, bodyC, thnC, elsC]
    simp [xI_seq, xI_region, xI_ret, regA, regOps, runOps, opStep, wantedA, opA, evo, evos, calleeA, lk, nif_eq, putE, paramsE, valS, val2, keepE, restrict, finA, resA, binA, binInt, ofConst, ofConst1, loadA, TK.isAgg, asVar, unA, builtinA, lenOpA, lenA, ileb_cast, ileb_eq, ieqb_dec, indexAddrA, inB_dec, evPairs, storeA, AV.cellsOf, pairsOf, xI_nil, binBool, gcE, evOpt, xI_block, xI_loopH, xI_condM, xI_exitM, xI_skip, xI_blk, exitA, ty2, ty3, ty4, ty22, eK20_0_0]
    simp only [R20_0_0, b20, Try.f20, Option.getD, fstC, sndC, bodyC, thnC, elsC]
    simp [xI_seq, xI_region, xI_ret, regA, regOps, runOps, opStep, wantedA, opA, evo, evos, calleeA, lk, nif_eq, putE, paramsE, valS, val2, keepE, restrict, finA, resA, binA, binInt, ofConst, ofConst1, loadA, TK.isAgg, asVar, unA, builtinA, lenOpA, lenA, ileb_cast, ileb_eq, ieqb_dec, indexAddrA, inB_dec, evPairs, storeA, AV.cellsOf, pairsOf, xI_nil, binBool, gcE, evOpt, xI_block, xI_loopH, xI_condM, xI_exitM, xI_skip, xI_blk, exitA, ty2, ty3, ty4, ty22, eK20_0_0]
  | cons c suf ih =>
    intro pre σ b out hc ho hr
    have hl : cs.length = pre.length + (suf.length + 1) := by rw [hc]; simp
    have hg : cs[pre.length]? = some c := by simp [hc]
    have hlt : ¬ cs.length ≤ pre.length := by omega
    have hlt2 : pre.length < cs.length := by omega
    have hw := wrapS (n := pre.length) (by omega)
    have hw1 : wrapA .i64 ((s : Int) + pre.length) = (s : Int) + pre.length := wrapA_id (by omega) (by omega)
    cases hin : inR c 0 ((s : Int) + pre.length) with
    | false =>
      have hsh : resv s (c :: suf) pre.length out = none := by simp [resv, hin]
      refine ⟨fun out' h => (by rw [hsh] at h; cases h), fun _ => ⟨σ, ?_⟩⟩
      rw [fi20]
      rw [xl20_0]
      simp only [B20_0, b20, Try.f20, Option.getD, fstC, sndC, bodyC, thnC, elsC]
      simp [xI_seq, xI_region, xI_ret, regA, regOps, runOps, opStep, wantedA, opA, evo, evos, calleeA, lk, nif_eq, putE, paramsE, valS, val2, keepE, restrict, finA, resA, binA, binInt, ofConst, ofConst1, loadA, TK.isAgg, asVar, unA, builtinA, lenOpA, lenA, ileb_cast, ileb_eq, ieqb_dec, indexAddrA, inB_dec, evPairs, storeA, AV.cellsOf, pairsOf, xI_nil, binBool, gcE, evOpt, xI_block, xI_loopH, xI_condM, xI_exitM, xI_skip, xI_blk, exitA, ty2, ty3, ty4, ty22, eK20_0_0, hw, hw1, hlt, hlt2, lst_read hg, c66, hin]
    | true =>
      obtain ⟨cc, rfl⟩ : ∃ cc : Nat, c = cc := ⟨c.toNat, by have := inR_iff.1 hin; omega⟩
      by_cases hcs : cc < s
      · obtain ⟨σ2, s2, r2, n2, o2⟩ := store_row (i := cc) (x := (s : Int) + pre.length) hr (by omega)
        have hsh : resv s ((cc : Int) :: suf) pre.length out = resv s suf (pre.length + 1) (out.set cc ((s : Int) + pre.length)) := by
          simp only [resv, hin, if_true, if_pos (show (cc : Int) < s by omega)]; simp
        rw [hsh]
        have ih1 := ih (pre ++ [(cc : Int)]) σ2 b _ (by simp [hc]) (by simp [ho]) r2
        simp only [List.length_append, List.length_singleton] at ih1
        have hcs2 : ¬ s ≤ cc := by omega
        rw [fi20] at ih1 ⊢
        rw [xl20_0]
        simp only [B20_0, b20, Try.f20, Option.getD, fstC, sndC, bodyC, thnC, elsC]
        simp [xI_seq, xI_region, xI_ret, regA, regOps, runOps, opStep, wantedA, opA, evo, evos, calleeA, lk, nif_eq, putE, paramsE, valS, val2, keepE, restrict, finA, resA, binA, binInt, ofConst, ofConst1, loadA, TK.isAgg, asVar, unA, builtinA, lenOpA, lenA, ileb_cast, ileb_eq, ieqb_dec, indexAddrA, inB_dec, evPairs, storeA, AV.cellsOf, pairsOf, xI_nil, binBool, gcE, evOpt, xI_block, xI_loopH, xI_condM, xI_exitM, xI_skip, xI_blk, exitA, ty2, ty3, ty4, ty22, eK20_0_0, hw, hw1, hlt, hlt2, lst_read hg, c66, hin, hcs, hcs2, s2]
        simpa using ih1
      · have hsh : resv s ((cc : Int) :: suf) pre.length out = resv s suf (pre.length + 1) out := by
          simp only [resv, hin, if_true, if_neg (show ¬ (cc : Int) < s by omega)]
        rw [hsh]
        have ih1 := ih (pre ++ [(cc : Int)]) σ b _ (by simp [hc]) ho hr
        simp only [List.length_append, List.length_singleton] at ih1
        have hcs2 : s ≤ cc := by omega
        rw [fi20] at ih1 ⊢
        rw [xl20_0]
        simp only [B20_0, b20, Try.f20, Option.getD, fstC, sndC, bodyC, thnC, elsC]
        simp [xI_seq, xI_region, xI_ret, regA, regOps, runOps, opStep, wantedA, opA, evo, evos, calleeA, lk, nif_eq, putE, paramsE, valS, val2, keepE, restrict, finA, resA, binA, binInt, ofConst, ofConst1, loadA, TK.isAgg, asVar, unA, builtinA, lenOpA, lenA, ileb_cast, ileb_eq, ieqb_dec, indexAddrA, inB_dec, evPairs, storeA, AV.cellsOf, pairsOf, xI_nil, binBool, gcE, evOpt, xI_block, xI_loopH, xI_condM, xI_exitM, xI_skip, xI_blk, exitA, ty2, ty3, ty4, ty22, eK20_0_0, hw, hw1, hlt, hlt2, lst_read hg, c66, hin, hcs2]
        simpa using ih1
theorem o20 (s : Int) (cs : List Int) (hs : cs.length < 2000000) : FnO TT 20 [.int .i64 s, .lst cs.length (ints cs)] (resvR s cs) := by
  cases h1 : inR s 1 12 with
  | false =>
    have hr : resvR s cs = none := by simp [resvR, h1]
    rw [hr]
    refine FnO.mkN fn20 rfl md20 ⟨⟨[], 0⟩, ?_⟩
    rw [fi20]
    simp [xI_seq, xI_region, xI_ret, regA, regOps, runOps, opStep, wantedA, opA, evo, evos, calleeA, lk, nif_eq, putE, paramsE, valS, val2, keepE, restrict, finA, resA, binA, binInt, ofConst, ofConst1, loadA, TK.isAgg, asVar, unA, builtinA, lenOpA, lenA, ileb_cast, ileb_eq, ieqb_dec, indexAddrA, inB_dec, evPairs, storeA, AV.cellsOf, pairsOf, xI_nil, binBool, gcE, evOpt, xI_block, xI_loopH, xI_condM, xI_exitM, xI_skip, xI_blk, exitA, ty2, ty3, ty4, ty22, eK20_0_0, c64, h1]
  | true =>
    by_cases h2 : cs.length ≤ 12
    · obtain ⟨m, rfl⟩ : ∃ m : Nat, s = m := ⟨s.toNat, by have := inR_iff.1 h1; omega⟩
      have hm := inR_iff.1 h1
      have hr : resvR m cs = resv m cs 0 (iotaF 0 m) := by simp [resvR, h1, h2]
      have h2' : (cs.length : Int) ≤ 12 := by omega
      obtain ⟨b, σ1, hA, rA, _, eb⟩ := (s65 m (by omega)).row (σ := ⟨[], 0⟩) (args := [.int .i64 m]) rfl
      rw [iotaF_length] at hA
      obtain ⟨k1, k2⟩ := l20 cs m (by omega) (by omega) cs [] σ1 b _ rfl (iotaF_length _ _) rA
      cases hx : resvR m cs with
      | none =>
        obtain ⟨σ', h3⟩ := k2 (by rw [← hx, hr]; rfl)
        refine FnO.mkN fn20 rfl md20 ⟨σ', ?_⟩
        rw [← h3, fi20]
        simp [xI_seq, xI_region, xI_ret, regA, regOps, runOps, opStep, wantedA, opA, evo, evos, calleeA, lk, nif_eq, putE, paramsE, valS, val2, keepE, restrict, finA, resA, binA, binInt, ofConst, ofConst1, loadA, TK.isAgg, asVar, unA, builtinA, lenOpA, lenA, ileb_cast, ileb_eq, ieqb_dec, indexAddrA, inB_dec, evPairs, storeA, AV.cellsOf, pairsOf, xI_nil, binBool, gcE, evOpt, xI_block, xI_loopH, xI_condM, xI_exitM, xI_skip, xI_blk, exitA, ty2, ty3, ty4, ty22, eK20_0_0, c64, h1, h2', hA]
        rfl
      | some out =>
        obtain ⟨σ', h3, o, h4, _⟩ := k1 out (by rw [← hx, hr]; rfl)
        have hlo : out.length = m := by rw [hr] at hx; rw [resv_length _ _ _ _ _ hx, iotaF_length]
        refine FnO.mkS fn20 rfl md20 ⟨σ', b, o, ?_, h4⟩
        rw [hlo, ← h3, fi20]
        simp [xI_seq, xI_region, xI_ret, regA, regOps, runOps, opStep, wantedA, opA, evo, evos, calleeA, lk, nif_eq, putE, paramsE, valS, val2, keepE, restrict, finA, resA, binA, binInt, ofConst, ofConst1, loadA, TK.isAgg, asVar, unA, builtinA, lenOpA, lenA, ileb_cast, ileb_eq, ieqb_dec, indexAddrA, inB_dec, evPairs, storeA, AV.cellsOf, pairsOf, xI_nil, binBool, gcE, evOpt, xI_block, xI_loopH, xI_condM, xI_exitM, xI_skip, xI_blk, exitA, ty2, ty3, ty4, ty22, eK20_0_0, c64, h1, h2', hA]
        rfl
    · have hr : resvR s cs = none := by simp [resvR, h2]
      have h2' : ¬ (cs.length : Int) ≤ 12 := by omega
      rw [hr]
      refine FnO.mkN fn20 rfl md20 ⟨⟨[], 0⟩, ?_⟩
      rw [fi20]
      simp [xI_seq, xI_region, xI_ret, regA, regOps, runOps, opStep, wantedA, opA, evo, evos, calleeA, lk, nif_eq, putE, paramsE, valS, val2, keepE, restrict, finA, resA, binA, binInt, ofConst, ofConst1, loadA, TK.isAgg, asVar, unA, builtinA, lenOpA, lenA, ileb_cast, ileb_eq, ieqb_dec, indexAddrA, inB_dec, evPairs, storeA, AV.cellsOf, pairsOf, xI_nil, binBool, gcE, evOpt, xI_block, xI_loopH, xI_condM, xI_exitM, xI_skip, xI_blk, exitA, ty2, ty3, ty4, ty22, eK20_0_0, c64, h1, h2']

end Go.Proofs.Ytaniaeefijgaiaa
