/- Contracts of small functions. Nothing is claimed here; no condition. -/
import Derived.Test.YtaniaeefijgaiaaHd
namespace Go.Proofs.Ytaniaeefijgaiaa
open Go Go.Abs
set_option linter.unusedSimpArgs false
set_option linter.unusedVariables false
def inR (n lo hi : Int) : Bool := decide (lo ≤ n) && decide (n ≤ hi)
theorem bs22 (σ : St) (x : Int) : buildSliceA TT σ 22 1 [(0, .int .i64 x)] = some (.sl σ.n 0 1 1, σ.push ⟨[.int .i64 x], 1, false⟩) := build_one ty22 ty2
theorem bn22 (σ : St) : buildSliceA TT σ 22 0 [] = some (.sl σ.n 0 0 0, σ.push ⟨ints [], 1, false⟩) := build_nil ty22 ty2
theorem mk22 (σ : St) (n : Nat) (hn : n ≤ 17592186044416) : makeSliceA TT σ 22 (.int .i64 n) (.int .i64 n) = some (.sl σ.n 0 n n, σ.push ⟨ints (List.replicate n 0), 1, false⟩) := make_ints ty22 ty2 hn

theorem c69 (n lo hi : Int) (σ : St) : callI TT 69 [.int .i64 n, .int .i64 lo, .int .i64 hi] σ = some (.bool (inR n lo hi), σ) := by
  refine (FnV.mk (args' := [.int .i64 n, .int .i64 lo, .int .i64 hi]) fn69 rfl md69 ⟨⟨[], 0⟩, ?_⟩ (fun _ => rfl) rfl) σ _ rfl
  rw [fi69]
  by_cases h1 : lo ≤ n <;> simp [xI_seq, xI_region, xI_ret, regA, regOps, runOps, opStep, wantedA, opA, evo, evos, calleeA, lk, nif_eq, putE, paramsE, valS, val2, keepE, restrict, finA, resA, binA, binInt, ofConst, ofConst1, loadA, TK.isAgg, asVar, unA, builtinA, lenOpA, lenA, ileb_cast, ileb_eq, ieqb_dec, indexAddrA, inB_dec, evPairs, storeA, AV.cellsOf, pairsOf, xI_nil, binBool, gcE, evOpt, inR, h1]

theorem c66 (n lo hi : Int) (σ : St) : callI TT 66 [.int .i64 n, .int .i64 lo, .int .i64 hi] σ = some (.bool (inR n lo hi), σ) := by
  refine (FnV.mk (args' := [.int .i64 n, .int .i64 lo, .int .i64 hi]) fn66 rfl md66 ⟨⟨[], 0⟩, ?_⟩ (fun _ => rfl) rfl) σ _ rfl
  rw [fi66]
  by_cases h1 : lo ≤ n <;> simp [xI_seq, xI_region, xI_ret, regA, regOps, runOps, opStep, wantedA, opA, evo, evos, calleeA, lk, nif_eq, putE, paramsE, valS, val2, keepE, restrict, finA, resA, binA, binInt, ofConst, ofConst1, loadA, TK.isAgg, asVar, unA, builtinA, lenOpA, lenA, ileb_cast, ileb_eq, ieqb_dec, indexAddrA, inB_dec, evPairs, storeA, AV.cellsOf, pairsOf, xI_nil, binBool, gcE, evOpt, inR, h1]

theorem c64 (n : Int) (σ : St) : callI TT 64 [.int .i64 n] σ = some (.bool (inR n 1 12), σ) := by
  refine (FnV.mk (args' := [.int .i64 n]) fn64 rfl md64 ⟨⟨[], 0⟩, ?_⟩ (fun _ => rfl) rfl) σ _ rfl
  rw [fi64]
  simp [xI_seq, xI_region, xI_ret, regA, regOps, runOps, opStep, wantedA, opA, evo, evos, calleeA, lk, nif_eq, putE, paramsE, valS, val2, keepE, restrict, finA, resA, binA, binInt, ofConst, ofConst1, loadA, TK.isAgg, asVar, unA, builtinA, lenOpA, lenA, ileb_cast, ileb_eq, ieqb_dec, indexAddrA, inB_dec, evPairs, storeA, AV.cellsOf, pairsOf, xI_nil, binBool, gcE, evOpt, c66]

theorem c67 (n : Int) (σ : St) : callI TT 67 [.int .i64 n] σ = some (.bool (inR n 1 12), σ) := by
  refine (FnV.mk (args' := [.int .i64 n]) fn67 rfl md67 ⟨⟨[], 0⟩, ?_⟩ (fun _ => rfl) rfl) σ _ rfl
  rw [fi67]
  simp [xI_seq, xI_region, xI_ret, regA, regOps, runOps, opStep, wantedA, opA, evo, evos, calleeA, lk, nif_eq, putE, paramsE, valS, val2, keepE, restrict, finA, resA, binA, binInt, ofConst, ofConst1, loadA, TK.isAgg, asVar, unA, builtinA, lenOpA, lenA, ileb_cast, ileb_eq, ieqb_dec, indexAddrA, inB_dec, evPairs, storeA, AV.cellsOf, pairsOf, xI_nil, binBool, gcE, evOpt, c69]

theorem c82 (n : Int) (σ : St) : callI TT 82 [.int .i64 n] σ = some (.bool (inR n 1 60), σ) := by
  refine (FnV.mk (args' := [.int .i64 n]) fn82 rfl md82 ⟨⟨[], 0⟩, ?_⟩ (fun _ => rfl) rfl) σ _ rfl
  rw [fi82]
  simp [xI_seq, xI_region, xI_ret, regA, regOps, runOps, opStep, wantedA, opA, evo, evos, calleeA, lk, nif_eq, putE, paramsE, valS, val2, keepE, restrict, finA, resA, binA, binInt, ofConst, ofConst1, loadA, TK.isAgg, asVar, unA, builtinA, lenOpA, lenA, ileb_cast, ileb_eq, ieqb_dec, indexAddrA, inB_dec, evPairs, storeA, AV.cellsOf, pairsOf, xI_nil, binBool, gcE, evOpt, c66]

theorem v75 (l : List Int) (n : Nat) : FnV TT 75 [.lst n (ints l)] (.int .i64 n) := by
  refine FnV.mk fn75 rfl md75 ⟨⟨[], 0⟩, ?_⟩ (fun _ => rfl) rfl
  rw [fi75]
  simp [xI_seq, xI_region, xI_ret, regA, regOps, runOps, opStep, wantedA, opA, evo, evos, calleeA, lk, nif_eq, putE, paramsE, valS, val2, keepE, restrict, finA, resA, binA, binInt, ofConst, ofConst1, loadA, TK.isAgg, asVar, unA, builtinA, lenOpA, lenA, ileb_cast, ileb_eq, ieqb_dec, indexAddrA, inB_dec, evPairs, storeA, AV.cellsOf, pairsOf, xI_nil, binBool, gcE, evOpt, ty2, ty22]

def iotaF (k : Int) : Nat → List Int
  | 0 => []
  | m + 1 => k :: iotaF (k + 1) m
theorem iotaF_get : ∀ (m : Nat) (k : Int) (i : Nat), i < m → (iotaF k m)[i]? = some (k + (i : Int))
  | 0, _, _, h => by omega
  | m + 1, k, 0, _ => by simp [iotaF]
  | m + 1, k, i + 1, h => by simp only [iotaF, List.getElem?_cons_succ]; rw [iotaF_get m (k + 1) i (by omega)]; congr 1; omega
theorem iotaF_length : ∀ (m : Nat) (k : Int), (iotaF k m).length = m
  | 0, _ => rfl
  | m + 1, k => by simp [iotaF, iotaF_length m]

noncomputable def b68 : Code := Try.f68.body.getD .skip
noncomputable def B68_0 : Code := (bodyC (bodyC (sndC (fstC (sndC (sndC b68))))))
noncomputable def K68_0 : List It := .lp B68_0 :: .blk 0 :: .code (sndC (sndC (sndC b68))) :: []
theorem xl68_0 {fi : FI} {env : Env} {σ : St} : exI TT fi K68_0 env σ = exI TT fi (.code B68_0 :: K68_0) env σ := by unfold K68_0; exact xI_lp
noncomputable def R68_0_0 : List It := .code (sndC (sndC (sndC b68))) :: []
theorem eK68_0_0 : exitA 0 K68_0 = some R68_0_0 := rfl
theorem l68 : ∀ (m k n : Nat) (σ : St) (b : Nat) (l : List Int), n = k + m → n < 1000000000000 → l.length = k → Row σ b l →
    ∃ σ' b', exI TT (FI.of Try.f68 (TT.an 68)) K68_0 [(3, .sl b 0 k k), (6, .int .i64 n), (7, .int .i64 k)] σ = some (.sl b' 0 n n, σ') ∧ Row σ' b' (l ++ iotaF k m) := by
  intro m
  induction m with
  | zero =>
    intro k n σ b l hn hs hl hr
    obtain rfl : n = k := by omega
    refine ⟨σ, b, ?_, by simpa [iotaF] using hr⟩
    rw [fi68]
    rw [xl68_0]
    simp only [B68_0, b68, Try.f68, Option.getD, fstC, sndC, bodyC]
    simp [xI_seq, xI_region, xI_ret, regA, regOps, runOps, opStep, wantedA, opA, evo, evos, calleeA, lk, nif_eq, putE, paramsE, valS, val2, keepE, restrict, finA, resA, binA, binInt, ofConst, ofConst1, loadA, TK.isAgg, asVar, unA, builtinA, lenOpA, lenA, ileb_cast, ileb_eq, ieqb_dec, indexAddrA, inB_dec, evPairs, storeA, AV.cellsOf, pairsOf, xI_nil, binBool, gcE, evOpt, xI_block, xI_loopH, xI_condM, xI_exitM, xI_skip, xI_blk, exitA, ty2, ty22, eK68_0_0]
    simp only [R68_0_0, b68, Try.f68, Option.getD, fstC, sndC, bodyC]
    simp [xI_seq, xI_region, xI_ret, regA, regOps, runOps, opStep, wantedA, opA, evo, evos, calleeA, lk, nif_eq, putE, paramsE, valS, val2, keepE, restrict, finA, resA, binA, binInt, ofConst, ofConst1, loadA, TK.isAgg, asVar, unA, builtinA, lenOpA, lenA, ileb_cast, ileb_eq, ieqb_dec, indexAddrA, inB_dec, evPairs, storeA, AV.cellsOf, pairsOf, xI_nil, binBool, gcE, evOpt, xI_block, xI_loopH, xI_condM, xI_exitM, xI_skip, xI_blk, exitA, ty2, ty22, eK68_0_0]
  | succ m ih =>
    intro k n σ b l hn hs hl hr
    obtain ⟨σ1, ha, hr1, hn1, _⟩ := append_row (x := k) ty22 ty2 hr hl.symm (by omega)
    obtain ⟨σ', b', h1, h2⟩ := ih (k + 1) n σ1 _ _ (by omega) hs (by simp [hl]) hr1
    refine ⟨σ', b', ?_, by simpa [iotaF] using h2⟩
    have hlt : ¬ n ≤ k := by omega
    have hw := wrapS (n := k) (by omega)
    rw [fi68] at h1 ⊢
    rw [xl68_0]
    simp only [B68_0, b68, Try.f68, Option.getD, fstC, sndC, bodyC]
    simp [xI_seq, xI_region, xI_ret, regA, regOps, runOps, opStep, wantedA, opA, evo, evos, calleeA, lk, nif_eq, putE, paramsE, valS, val2, keepE, restrict, finA, resA, binA, binInt, ofConst, ofConst1, loadA, TK.isAgg, asVar, unA, builtinA, lenOpA, lenA, ileb_cast, ileb_eq, ieqb_dec, indexAddrA, inB_dec, evPairs, storeA, AV.cellsOf, pairsOf, xI_nil, binBool, gcE, evOpt, xI_block, xI_loopH, xI_condM, xI_exitM, xI_skip, xI_blk, exitA, ty2, ty22, eK68_0_0, bs22, ha, hw, hlt]
    simpa using h1
theorem s68 (n : Nat) (hn : n < 1000000000000) : FnS TT 68 [.int .i64 n] (iotaF 0 n) := by
  obtain ⟨σ', b', h1, o, h2, _⟩ := l68 n 0 n ((⟨[], 0⟩ : St).push ⟨ints [], 1, false⟩) 0 [] (by omega) hn rfl ⟨false, rfl, by decide⟩
  refine FnS.mk fn68 rfl md68 ⟨σ', b', o, ?_, by simpa using h2⟩
  rw [iotaF_length, ← h1]
  rw [fi68]
  simp [xI_seq, xI_region, xI_ret, regA, regOps, runOps, opStep, wantedA, opA, evo, evos, calleeA, lk, nif_eq, putE, paramsE, valS, val2, keepE, restrict, finA, resA, binA, binInt, ofConst, ofConst1, loadA, TK.isAgg, asVar, unA, builtinA, lenOpA, lenA, ileb_cast, ileb_eq, ieqb_dec, indexAddrA, inB_dec, evPairs, storeA, AV.cellsOf, pairsOf, xI_nil, binBool, gcE, evOpt, xI_block, xI_loopH, xI_condM, xI_exitM, xI_skip, xI_blk, exitA, ty2, ty22, eK68_0_0, bn22]
  rfl

noncomputable def b65 : Code := Try.f65.body.getD .skip
noncomputable def B65_0 : Code := (bodyC (bodyC (sndC (fstC (sndC (sndC b65))))))
noncomputable def K65_0 : List It := .lp B65_0 :: .blk 0 :: .code (sndC (sndC (sndC b65))) :: []
theorem xl65_0 {fi : FI} {env : Env} {σ : St} : exI TT fi K65_0 env σ = exI TT fi (.code B65_0 :: K65_0) env σ := by unfold K65_0; exact xI_lp
noncomputable def R65_0_0 : List It := .code (sndC (sndC (sndC b65))) :: []
theorem eK65_0_0 : exitA 0 K65_0 = some R65_0_0 := rfl
theorem l65 : ∀ (m k n : Nat) (σ : St) (b : Nat) (l : List Int), n = k + m → n < 1000000000000 → l.length = k → Row σ b l →
    ∃ σ' b', exI TT (FI.of Try.f65 (TT.an 65)) K65_0 [(0, .int .i64 n), (3, .sl b 0 k k), (4, .int .i64 k)] σ = some (.sl b' 0 n n, σ') ∧ Row σ' b' (l ++ iotaF k m) := by
  intro m
  induction m with
  | zero =>
    intro k n σ b l hn hs hl hr
    obtain rfl : n = k := by omega
    refine ⟨σ, b, ?_, by simpa [iotaF] using hr⟩
    rw [fi65]
    rw [xl65_0]
    simp only [B65_0, b65, Try.f65, Option.getD, fstC, sndC, bodyC]
    simp [xI_seq, xI_region, xI_ret, regA, regOps, runOps, opStep, wantedA, opA, evo, evos, calleeA, lk, nif_eq, putE, paramsE, valS, val2, keepE, restrict, finA, resA, binA, binInt, ofConst, ofConst1, loadA, TK.isAgg, asVar, unA, builtinA, lenOpA, lenA, ileb_cast, ileb_eq, ieqb_dec, indexAddrA, inB_dec, evPairs, storeA, AV.cellsOf, pairsOf, xI_nil, binBool, gcE, evOpt, xI_block, xI_loopH, xI_condM, xI_exitM, xI_skip, xI_blk, exitA, ty2, ty22, eK65_0_0]
    simp only [R65_0_0, b65, Try.f65, Option.getD, fstC, sndC, bodyC]
    simp [xI_seq, xI_region, xI_ret, regA, regOps, runOps, opStep, wantedA, opA, evo, evos, calleeA, lk, nif_eq, putE, paramsE, valS, val2, keepE, restrict, finA, resA, binA, binInt, ofConst, ofConst1, loadA, TK.isAgg, asVar, unA, builtinA, lenOpA, lenA, ileb_cast, ileb_eq, ieqb_dec, indexAddrA, inB_dec, evPairs, storeA, AV.cellsOf, pairsOf, xI_nil, binBool, gcE, evOpt, xI_block, xI_loopH, xI_condM, xI_exitM, xI_skip, xI_blk, exitA, ty2, ty22, eK65_0_0]
  | succ m ih =>
    intro k n σ b l hn hs hl hr
    obtain ⟨σ1, ha, hr1, hn1, _⟩ := append_row (x := k) ty22 ty2 hr hl.symm (by omega)
    obtain ⟨σ', b', h1, h2⟩ := ih (k + 1) n σ1 _ _ (by omega) hs (by simp [hl]) hr1
    refine ⟨σ', b', ?_, by simpa [iotaF] using h2⟩
    have hlt : ¬ n ≤ k := by omega
    have hw := wrapS (n := k) (by omega)
    rw [fi65] at h1 ⊢
    rw [xl65_0]
    simp only [B65_0, b65, Try.f65, Option.getD, fstC, sndC, bodyC]
    simp [xI_seq, xI_region, xI_ret, regA, regOps, runOps, opStep, wantedA, opA, evo, evos, calleeA, lk, nif_eq, putE, paramsE, valS, val2, keepE, restrict, finA, resA, binA, binInt, ofConst, ofConst1, loadA, TK.isAgg, asVar, unA, builtinA, lenOpA, lenA, ileb_cast, ileb_eq, ieqb_dec, indexAddrA, inB_dec, evPairs, storeA, AV.cellsOf, pairsOf, xI_nil, binBool, gcE, evOpt, xI_block, xI_loopH, xI_condM, xI_exitM, xI_skip, xI_blk, exitA, ty2, ty22, eK65_0_0, bs22, ha, hw, hlt]
    simpa using h1
theorem s65 (n : Nat) (hn : n < 1000000000000) : FnS TT 65 [.int .i64 n] (iotaF 0 n) := by
  obtain ⟨σ', b', h1, o, h2, _⟩ := l65 n 0 n ((⟨[], 0⟩ : St).push ⟨ints [], 1, false⟩) 0 [] (by omega) hn rfl ⟨false, rfl, by decide⟩
  refine FnS.mk fn65 rfl md65 ⟨σ', b', o, ?_, by simpa using h2⟩
  rw [iotaF_length, ← h1]
  rw [fi65]
  simp [xI_seq, xI_region, xI_ret, regA, regOps, runOps, opStep, wantedA, opA, evo, evos, calleeA, lk, nif_eq, putE, paramsE, valS, val2, keepE, restrict, finA, resA, binA, binInt, ofConst, ofConst1, loadA, TK.isAgg, asVar, unA, builtinA, lenOpA, lenA, ileb_cast, ileb_eq, ieqb_dec, indexAddrA, inB_dec, evPairs, storeA, AV.cellsOf, pairsOf, xI_nil, binBool, gcE, evOpt, xI_block, xI_loopH, xI_condM, xI_exitM, xI_skip, xI_blk, exitA, ty2, ty22, eK65_0_0, bn22]
  rfl

end Go.Proofs.Ytaniaeefijgaiaa
