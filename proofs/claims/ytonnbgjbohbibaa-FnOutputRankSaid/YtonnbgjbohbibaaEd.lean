/- Contracts: rows that change nothing, rows of two steps, rows of many steps. Nothing is claimed here; no condition. -/
import Derived.Test.YtonnbgjbohbibaaEc
namespace Go.Proofs.Ytonnbgjbohbibaa
open Go Go.Abs
set_option linter.unusedSimpArgs false
set_option linter.unusedVariables false
open Go.Wd
theorem comb_62 {A : List Nat} (h : ∀ r ∈ A, r < 2 ^ 62) (m : Nat) : comb A m < 2 ^ 62 := comb_lt A h m
theorem times_62 {A B : List Nat} (h : ∀ r ∈ A, r < 2 ^ 62) : ∀ r ∈ times A B, r < 2 ^ 62 := by
  intro r hr
  obtain ⟨x, _, rfl⟩ := List.mem_map.1 hr
  exact comb_62 h x
theorem units_append : ∀ (k a : Nat), units a (k + 1) = units a k ++ [2 ^ (a + k)]
  | 0, a => by simp [units]
  | k + 1, a => by rw [units, units_append k (a + 1), units]; simp; congr 1; omega
theorem pow_62' {k : Nat} (h : k ≤ 61) : 2 ^ k < 2 ^ 62 := Nat.pow_lt_pow_right (by decide) (by omega)
theorem units_62 (k : Nat) (h : k ≤ 62) : ∀ r ∈ units 0 k, r < 2 ^ 62 := by
  induction k with
  | zero => intro r hr; simp [units] at hr
  | succ k ih =>
    intro r hr
    rw [units_append, List.mem_append] at hr
    rcases hr with hr | hr
    · exact ih (by omega) r hr
    · simp at hr; subst hr; exact pow_62' (by omega)

noncomputable def b94 : Code := Try.f94.body.getD .skip
noncomputable def B94_0 : Code := (bodyC (bodyC (sndC (fstC (sndC (sndC b94))))))
noncomputable def K94_0 : List It := .lp B94_0 :: .blk 0 :: .code (sndC (sndC (sndC b94))) :: []
theorem xl94_0 {fi : FI} {env : Env} {σ : St} : exI TT fi K94_0 env σ = exI TT fi (.code B94_0 :: K94_0) env σ := by unfold K94_0; exact xI_lp
noncomputable def R94_0_0 : List It := .code (sndC (sndC (sndC b94))) :: []
theorem eK94_0_0 : exitA 0 K94_0 = some R94_0_0 := rfl
theorem l94 (w : Nat) (hw62 : w ≤ 62) : ∀ (m k : Nat) (σ : St) (b : Nat), k + m = w → Row σ b (nints (units 0 k)) →
    ∃ σ' b', exI TT (FI.of Try.f94 (TT.an 94)) K94_0 [(3, .sl b 0 k k), (6, .int .i64 w), (7, .int .i64 k)] σ = some (.sl b' 0 w w, σ') ∧ Row σ' b' (nints (units 0 w)) := by
  intro m
  induction m with
  | zero =>
    intro k σ b hk hr
    obtain rfl : k = w := by omega
    refine ⟨σ, b, ?_, hr⟩
    rw [fi94]
    rw [xl94_0]
    simp only [B94_0, b94, Try.f94, Option.getD, fstC, sndC, bodyC, thnC, elsC]
    simp [xI_seq, xI_region, xI_ret, regA, regOps, runOps, opStep, wantedA, opA, evo, evos, calleeA, lk, nif_eq, putE, paramsE, valS, val2, keepE, restrict, finA, resA, binA, binInt, ofConst, ofConst1, loadA, TK.isAgg, asVar, unA, builtinA, lenOpA, lenA, ileb_cast, ileb_eq, ieqb_dec, indexAddrA, inB_dec, evPairs, storeA, AV.cellsOf, pairsOf, xI_nil, binBool, gcE, evOpt, xI_block, xI_loopH, xI_condM, xI_exitM, xI_skip, xI_blk, exitA, ty2, ty33, eK94_0_0]
    simp only [R94_0_0, b94, Try.f94, Option.getD, fstC, sndC, bodyC, thnC, elsC]
    simp [xI_seq, xI_region, xI_ret, regA, regOps, runOps, opStep, wantedA, opA, evo, evos, calleeA, lk, nif_eq, putE, paramsE, valS, val2, keepE, restrict, finA, resA, binA, binInt, ofConst, ofConst1, loadA, TK.isAgg, asVar, unA, builtinA, lenOpA, lenA, ileb_cast, ileb_eq, ieqb_dec, indexAddrA, inB_dec, evPairs, storeA, AV.cellsOf, pairsOf, xI_nil, binBool, gcE, evOpt, xI_block, xI_loopH, xI_condM, xI_exitM, xI_skip, xI_blk, exitA, ty2, ty33, eK94_0_0]
  | succ m ih =>
    intro k σ b hk hr
    obtain ⟨σ1, ha, hr1, hn1, _⟩ := nints_append_row (x := pw k) ty33 ty2 hr (n := k) (by simp [units_length]) (by omega)
    rw [show units 0 k ++ [pw k] = units 0 (k + 1) by rw [units_append]; simp [pw]] at hr1
    obtain ⟨σ', b', h1, h2⟩ := ih (k + 1) σ1 _ (by omega) hr1
    refine ⟨σ', b', ?_, h2⟩
    have hlt : ¬ w ≤ k := by omega
    have hw := wrapS (n := k) (by omega)
    have a1 := sh_1 (b := k) (by omega)
    rw [fi94] at h1 ⊢
    rw [xl94_0]
    simp only [B94_0, b94, Try.f94, Option.getD, fstC, sndC, bodyC, thnC, elsC]
    simp [xI_seq, xI_region, xI_ret, regA, regOps, runOps, opStep, wantedA, opA, evo, evos, calleeA, lk, nif_eq, putE, paramsE, valS, val2, keepE, restrict, finA, resA, binA, binInt, ofConst, ofConst1, loadA, TK.isAgg, asVar, unA, builtinA, lenOpA, lenA, ileb_cast, ileb_eq, ieqb_dec, indexAddrA, inB_dec, evPairs, storeA, AV.cellsOf, pairsOf, xI_nil, binBool, gcE, evOpt, xI_block, xI_loopH, xI_condM, xI_exitM, xI_skip, xI_blk, exitA, ty2, ty33, eK94_0_0, bs1, ha, hw, hlt, a1]
    simpa using h1
theorem s94 (w : Nat) (hw62 : w ≤ 62) : FnS TT 94 [.int .i64 w] (nints (units 0 w)) := by
  obtain ⟨σ', b', h1, o, h2, _⟩ := l94 w hw62 w 0 ((⟨[], 0⟩ : St).push ⟨ints [], 1, false⟩) 0 (by omega) ⟨false, rfl, by decide⟩
  refine FnS.mk fn94 rfl md94 ⟨σ', b', o, ?_, h2⟩
  rw [nints_length, units_length, ← h1, fi94]
  simp [xI_seq, xI_region, xI_ret, regA, regOps, runOps, opStep, wantedA, opA, evo, evos, calleeA, lk, nif_eq, putE, paramsE, valS, val2, keepE, restrict, finA, resA, binA, binInt, ofConst, ofConst1, loadA, TK.isAgg, asVar, unA, builtinA, lenOpA, lenA, ileb_cast, ileb_eq, ieqb_dec, indexAddrA, inB_dec, evPairs, storeA, AV.cellsOf, pairsOf, xI_nil, binBool, gcE, evOpt, xI_block, xI_loopH, xI_condM, xI_exitM, xI_skip, xI_blk, exitA, ty2, ty33, eK94_0_0, bn0]
  rfl

noncomputable def b95 : Code := Try.f95.body.getD .skip
noncomputable def B95_0 : Code := (bodyC (bodyC (sndC (fstC (sndC (sndC b95))))))
noncomputable def K95_0 : List It := .lp B95_0 :: .blk 0 :: .code (sndC (sndC (sndC b95))) :: []
theorem xl95_0 {fi : FI} {env : Env} {σ : St} : exI TT fi K95_0 env σ = exI TT fi (.code B95_0 :: K95_0) env σ := by unfold K95_0; exact xI_lp
noncomputable def R95_0_0 : List It := .code (sndC (sndC (sndC b95))) :: []
theorem eK95_0_0 : exitA 0 K95_0 = some R95_0_0 := rfl
theorem l95 (A B : List Nat) (hA : ∀ r ∈ A, r < 2 ^ 62) (hl : A.length ≤ 64) (hB : ∀ r ∈ B, r < 2 ^ 62) (hs : B.length < 1000000) : ∀ (suf pre : List Nat) (σ : St) (b : Nat), B = pre ++ suf → Row σ b (nints (times A pre)) →
    ∃ σ' b', exI TT (FI.of Try.f95 (TT.an 95)) K95_0 [(0, .lst A.length (ints (nints A))), (5, .sl b 0 pre.length pre.length), (9, .lst B.length (ints (nints B))), (10, .int .i64 B.length), (11, .int .i64 pre.length)] σ = some (.sl b' 0 B.length B.length, σ') ∧ Row σ' b' (nints (times A B)) := by
  intro suf
  induction suf with
  | nil =>
    intro pre σ b hp hr
    have hp : B = pre := by simpa using hp
    subst hp
    refine ⟨σ, b, ?_, hr⟩
    rw [fi95]
    rw [xl95_0]
    simp only [B95_0, b95, Try.f95, Option.getD, fstC, sndC, bodyC, thnC, elsC]
    simp [xI_seq, xI_region, xI_ret, regA, regOps, runOps, opStep, wantedA, opA, evo, evos, calleeA, lk, nif_eq, putE, paramsE, valS, val2, keepE, restrict, finA, resA, binA, binInt, ofConst, ofConst1, loadA, TK.isAgg, asVar, unA, builtinA, lenOpA, lenA, ileb_cast, ileb_eq, ieqb_dec, indexAddrA, inB_dec, evPairs, storeA, AV.cellsOf, pairsOf, xI_nil, binBool, gcE, evOpt, xI_block, xI_loopH, xI_condM, xI_exitM, xI_skip, xI_blk, exitA, ty2, ty3, ty33, eK95_0_0]
    simp only [R95_0_0, b95, Try.f95, Option.getD, fstC, sndC, bodyC, thnC, elsC]
    simp [xI_seq, xI_region, xI_ret, regA, regOps, runOps, opStep, wantedA, opA, evo, evos, calleeA, lk, nif_eq, putE, paramsE, valS, val2, keepE, restrict, finA, resA, binA, binInt, ofConst, ofConst1, loadA, TK.isAgg, asVar, unA, builtinA, lenOpA, lenA, ileb_cast, ileb_eq, ieqb_dec, indexAddrA, inB_dec, evPairs, storeA, AV.cellsOf, pairsOf, xI_nil, binBool, gcE, evOpt, xI_block, xI_loopH, xI_condM, xI_exitM, xI_skip, xI_blk, exitA, ty2, ty3, ty33, eK95_0_0]
  | cons x suf ih =>
    intro pre σ b hp hr
    have hll : B.length = pre.length + (suf.length + 1) := by rw [hp]; simp
    have hx : x < 2 ^ 62 := hB x (by simp [hp])
    have hg : (nints B)[pre.length]? = some (x : Int) := nints_get (by simp [hp])
    have hc : callI TT 134 [.lst A.length (ints (nints A)), .int .i64 x] σ = some (.int .i64 (comb A x : Nat), σ) := v134 A hA hl x hx σ _ rfl
    obtain ⟨σ1, ha, hr1, hn1, _⟩ := nints_append_row (x := comb A x) ty33 ty2 hr (n := pre.length) (by simp [times_length]) (by omega)
    rw [show times A pre ++ [comb A x] = times A (pre ++ [x]) by simp [times]] at hr1
    obtain ⟨σ', b', h1, h2⟩ := ih (pre ++ [x]) σ1 _ (by simp [hp]) hr1
    refine ⟨σ', b', ?_, h2⟩
    simp only [List.length_append, List.length_singleton] at h1
    have hlt : ¬ B.length ≤ pre.length := by omega
    have hlt2 : pre.length < B.length := by omega
    have hw := wrapS (n := pre.length) (by omega)
    rw [fi95] at h1 ⊢
    rw [xl95_0]
    simp only [B95_0, b95, Try.f95, Option.getD, fstC, sndC, bodyC, thnC, elsC]
    simp [xI_seq, xI_region, xI_ret, regA, regOps, runOps, opStep, wantedA, opA, evo, evos, calleeA, lk, nif_eq, putE, paramsE, valS, val2, keepE, restrict, finA, resA, binA, binInt, ofConst, ofConst1, loadA, TK.isAgg, asVar, unA, builtinA, lenOpA, lenA, ileb_cast, ileb_eq, ieqb_dec, indexAddrA, inB_dec, evPairs, storeA, AV.cellsOf, pairsOf, xI_nil, binBool, gcE, evOpt, xI_block, xI_loopH, xI_condM, xI_exitM, xI_skip, xI_blk, exitA, ty2, ty3, ty33, eK95_0_0, bs1, ha, hw, hlt, hlt2, hc, lst_read hg]
    simpa using h1
theorem s95 (A B : List Nat) (hA : ∀ r ∈ A, r < 2 ^ 62) (hl : A.length ≤ 64) (hB : ∀ r ∈ B, r < 2 ^ 62) (hs : B.length < 1000000) : FnS TT 95 [.lst A.length (ints (nints A)), .lst B.length (ints (nints B))] (nints (times A B)) := by
  obtain ⟨σ', b', h1, o, h2, _⟩ := l95 A B hA hl hB hs B [] ((⟨[], 0⟩ : St).push ⟨ints [], 1, false⟩) 0 rfl ⟨false, rfl, by decide⟩
  refine FnS.mk fn95 rfl md95 ⟨σ', b', o, ?_, h2⟩
  rw [nints_length, times_length, ← h1, fi95]
  simp [xI_seq, xI_region, xI_ret, regA, regOps, runOps, opStep, wantedA, opA, evo, evos, calleeA, lk, nif_eq, putE, paramsE, valS, val2, keepE, restrict, finA, resA, binA, binInt, ofConst, ofConst1, loadA, TK.isAgg, asVar, unA, builtinA, lenOpA, lenA, ileb_cast, ileb_eq, ieqb_dec, indexAddrA, inB_dec, evPairs, storeA, AV.cellsOf, pairsOf, xI_nil, binBool, gcE, evOpt, xI_block, xI_loopH, xI_condM, xI_exitM, xI_skip, xI_blk, exitA, ty2, ty3, ty33, eK95_0_0, bn0]
  rfl
theorem r95 (A B : List Nat) (hA : ∀ r ∈ A, r < 2 ^ 62) (hl : A.length ≤ 64) (hB : ∀ r ∈ B, r < 2 ^ 62) (hs : B.length < 1000000) (σ : St) (u v : AV) (hu : IsL σ u (nints A)) (hv : IsL σ v (nints B)) :
    ∃ σ' b, callI TT 95 [u, v] σ = some (.sl b 0 B.length B.length, σ') ∧ Row σ' b (nints (times A B)) ∧ Old σ σ' ∧ b = σ.n := by
  have fu := hu.frz (d := 4)
  have fv := hv.frz (d := 4)
  rw [nints_length] at fu fv
  obtain ⟨b, σ', h1, h2, h3, h4⟩ := (s95 A B hA hl hB hs).row (σ := σ) (args := [u, v]) (mapO_cons fu (mapO_cons fv rfl))
  rw [nints_length, times_length] at h1
  exact ⟨σ', b, h1, h2, h3, h4.symm⟩

noncomputable def b138 : Code := Try.f138.body.getD .skip
noncomputable def B138_0 : Code := (bodyC (bodyC (sndC (fstC (sndC (sndC b138))))))
noncomputable def K138_0 : List It := .lp B138_0 :: .blk 0 :: .code (sndC (sndC (sndC b138))) :: []
theorem xl138_0 {fi : FI} {env : Env} {σ : St} : exI TT fi K138_0 env σ = exI TT fi (.code B138_0 :: K138_0) env σ := by unfold K138_0; exact xI_lp
noncomputable def R138_0_0 : List It := .code (sndC (sndC (sndC b138))) :: []
theorem eK138_0_0 : exitA 0 K138_0 = some R138_0_0 := rfl
theorem l138 (A B : List Nat) (hA : ∀ r ∈ A, r < 2 ^ 62) (hl : A.length ≤ 64) (hB : ∀ r ∈ B, r < 2 ^ 62) (hs : B.length < 1000000) : ∀ (suf pre : List Nat) (σ : St) (b : Nat), B = pre ++ suf → Row σ b (nints (times A pre)) →
    ∃ σ' b', exI TT (FI.of Try.f138 (TT.an 138)) K138_0 [(0, .lst A.length (ints (nints A))), (1, .lst B.length (ints (nints B))), (5, .sl b 0 pre.length pre.length), (6, .int .i64 pre.length)] σ = some (.sl b' 0 B.length B.length, σ') ∧ Row σ' b' (nints (times A B)) := by
  intro suf
  induction suf with
  | nil =>
    intro pre σ b hp hr
    have hp : B = pre := by simpa using hp
    subst hp
    refine ⟨σ, b, ?_, hr⟩
    rw [fi138]
    rw [xl138_0]
    simp only [B138_0, b138, Try.f138, Option.getD, fstC, sndC, bodyC, thnC, elsC]
    simp [xI_seq, xI_region, xI_ret, regA, regOps, runOps, opStep, wantedA, opA, evo, evos, calleeA, lk, nif_eq, putE, paramsE, valS, val2, keepE, restrict, finA, resA, binA, binInt, ofConst, ofConst1, loadA, TK.isAgg, asVar, unA, builtinA, lenOpA, lenA, ileb_cast, ileb_eq, ieqb_dec, indexAddrA, inB_dec, evPairs, storeA, AV.cellsOf, pairsOf, xI_nil, binBool, gcE, evOpt, xI_block, xI_loopH, xI_condM, xI_exitM, xI_skip, xI_blk, exitA, ty2, ty3, ty33, eK138_0_0]
    simp only [R138_0_0, b138, Try.f138, Option.getD, fstC, sndC, bodyC, thnC, elsC]
    simp [xI_seq, xI_region, xI_ret, regA, regOps, runOps, opStep, wantedA, opA, evo, evos, calleeA, lk, nif_eq, putE, paramsE, valS, val2, keepE, restrict, finA, resA, binA, binInt, ofConst, ofConst1, loadA, TK.isAgg, asVar, unA, builtinA, lenOpA, lenA, ileb_cast, ileb_eq, ieqb_dec, indexAddrA, inB_dec, evPairs, storeA, AV.cellsOf, pairsOf, xI_nil, binBool, gcE, evOpt, xI_block, xI_loopH, xI_condM, xI_exitM, xI_skip, xI_blk, exitA, ty2, ty3, ty33, eK138_0_0]
  | cons x suf ih =>
    intro pre σ b hp hr
    have hll : B.length = pre.length + (suf.length + 1) := by rw [hp]; simp
    have hx : x < 2 ^ 62 := hB x (by simp [hp])
    have hg : (nints B)[pre.length]? = some (x : Int) := nints_get (by simp [hp])
    have hc : callI TT 137 [.int .i64 x, .lst A.length (ints (nints A))] σ = some (.int .i64 (comb A x : Nat), σ) := v137 A hA hl x hx σ _ rfl
    obtain ⟨σ1, ha, hr1, hn1, _⟩ := nints_append_row (x := comb A x) ty33 ty2 hr (n := pre.length) (by simp [times_length]) (by omega)
    rw [show times A pre ++ [comb A x] = times A (pre ++ [x]) by simp [times]] at hr1
    obtain ⟨σ', b', h1, h2⟩ := ih (pre ++ [x]) σ1 _ (by simp [hp]) hr1
    refine ⟨σ', b', ?_, h2⟩
    simp only [List.length_append, List.length_singleton] at h1
    have hlt : ¬ B.length ≤ pre.length := by omega
    have hlt2 : pre.length < B.length := by omega
    have hw := wrapS (n := pre.length) (by omega)
    rw [fi138] at h1 ⊢
    rw [xl138_0]
    simp only [B138_0, b138, Try.f138, Option.getD, fstC, sndC, bodyC, thnC, elsC]
    simp [xI_seq, xI_region, xI_ret, regA, regOps, runOps, opStep, wantedA, opA, evo, evos, calleeA, lk, nif_eq, putE, paramsE, valS, val2, keepE, restrict, finA, resA, binA, binInt, ofConst, ofConst1, loadA, TK.isAgg, asVar, unA, builtinA, lenOpA, lenA, ileb_cast, ileb_eq, ieqb_dec, indexAddrA, inB_dec, evPairs, storeA, AV.cellsOf, pairsOf, xI_nil, binBool, gcE, evOpt, xI_block, xI_loopH, xI_condM, xI_exitM, xI_skip, xI_blk, exitA, ty2, ty3, ty33, eK138_0_0, bs1, ha, hw, hlt, hlt2, hc, lst_read hg]
    simpa using h1
theorem s138 (A B : List Nat) (hA : ∀ r ∈ A, r < 2 ^ 62) (hl : A.length ≤ 64) (hB : ∀ r ∈ B, r < 2 ^ 62) (hs : B.length < 1000000) : FnS TT 138 [.lst A.length (ints (nints A)), .lst B.length (ints (nints B))] (nints (times A B)) := by
  obtain ⟨σ', b', h1, o, h2, _⟩ := l138 A B hA hl hB hs B [] ((⟨[], 0⟩ : St).push ⟨ints [], 1, false⟩) 0 rfl ⟨false, rfl, by decide⟩
  refine FnS.mk fn138 rfl md138 ⟨σ', b', o, ?_, h2⟩
  rw [nints_length, times_length, ← h1, fi138]
  simp [xI_seq, xI_region, xI_ret, regA, regOps, runOps, opStep, wantedA, opA, evo, evos, calleeA, lk, nif_eq, putE, paramsE, valS, val2, keepE, restrict, finA, resA, binA, binInt, ofConst, ofConst1, loadA, TK.isAgg, asVar, unA, builtinA, lenOpA, lenA, ileb_cast, ileb_eq, ieqb_dec, indexAddrA, inB_dec, evPairs, storeA, AV.cellsOf, pairsOf, xI_nil, binBool, gcE, evOpt, xI_block, xI_loopH, xI_condM, xI_exitM, xI_skip, xI_blk, exitA, ty2, ty3, ty33, eK138_0_0, bn0]
  rfl
theorem r138 (A B : List Nat) (hA : ∀ r ∈ A, r < 2 ^ 62) (hl : A.length ≤ 64) (hB : ∀ r ∈ B, r < 2 ^ 62) (hs : B.length < 1000000) (σ : St) (u v : AV) (hu : IsL σ u (nints A)) (hv : IsL σ v (nints B)) :
    ∃ σ' b, callI TT 138 [u, v] σ = some (.sl b 0 B.length B.length, σ') ∧ Row σ' b (nints (times A B)) ∧ Old σ σ' ∧ b = σ.n := by
  have fu := hu.frz (d := 4)
  have fv := hv.frz (d := 4)
  rw [nints_length] at fu fv
  obtain ⟨b, σ', h1, h2, h3, h4⟩ := (s138 A B hA hl hB hs).row (σ := σ) (args := [u, v]) (mapO_cons fu (mapO_cons fv rfl))
  rw [nints_length, times_length] at h1
  exact ⟨σ', b, h1, h2, h3, h4.symm⟩

noncomputable def b109 : Code := Try.f109.body.getD .skip
noncomputable def B109_0 : Code := (bodyC (bodyC (sndC (fstC (sndC (sndC b109))))))
noncomputable def K109_0 : List It := .lp B109_0 :: .blk 0 :: .code (sndC (sndC (sndC b109))) :: []
theorem xl109_0 {fi : FI} {env : Env} {σ : St} : exI TT fi K109_0 env σ = exI TT fi (.code B109_0 :: K109_0) env σ := by unfold K109_0; exact xI_lp
noncomputable def R109_0_0 : List It := .code (sndC (sndC (sndC b109))) :: []
theorem eK109_0_0 : exitA 0 K109_0 = some R109_0_0 := rfl
noncomputable def B109_1 : Code := (bodyC (bodyC (fstC (sndC (sndC (sndC b109))))))
noncomputable def K109_1 : List It := .lp B109_1 :: .blk 2 :: .code (sndC (sndC (sndC (sndC b109)))) :: []
theorem xl109_1 {fi : FI} {env : Env} {σ : St} : exI TT fi K109_1 env σ = exI TT fi (.code B109_1 :: K109_1) env σ := by unfold K109_1; exact xI_lp
noncomputable def R109_1_2 : List It := .code (sndC (sndC (sndC (sndC b109)))) :: []
theorem eK109_1_2 : exitA 2 K109_1 = some R109_1_2 := rfl
theorem modI (n : Nat) : (n : Int).tmod 2 = ((modN n 2 : Nat) : Int) := rfl
theorem divI (n : Nat) : (n : Int).tdiv 2 = ((divN n 2 : Nat) : Int) := rfl
theorem l109b : ∀ (k : Nat) (R out : List Nat) (n : Nat) (σ : St) (u v : AV) (rest : Env), (∀ r ∈ R, r < 2 ^ 62) → (∀ r ∈ out, r < 2 ^ 62) → R.length ≤ 64 → out.length = R.length → n < 2 ^ k → k ≤ 63 → IsL σ u (nints R) → (∃ b, v = .sl b 0 R.length R.length ∧ Row σ b (nints out)) →
    ∃ σ' b', exI TT (FI.of Try.f109 (TT.an 109)) K109_1 ((0, u) :: (1, .int .i64 n) :: (5, v) :: rest) σ = some (.sl b' 0 R.length R.length, σ') ∧ Row σ' b' (nints (power k R out n)) := by
  intro k
  induction k with
  | zero =>
    intro R out n σ u v rest hR ho hl hlo hn hk hu hv
    obtain ⟨b, rfl, hb⟩ := hv
    obtain rfl : n = 0 := by simpa using hn
    refine ⟨σ, b, ?_, hb⟩
    rw [fi109]
    rw [xl109_1]
    simp only [B109_1, b109, Try.f109, Option.getD, fstC, sndC, bodyC, thnC, elsC]
    simp [xI_seq, xI_region, xI_ret, regA, regOps, runOps, opStep, wantedA, opA, evo, evos, calleeA, lk, nif_eq, putE, paramsE, valS, val2, keepE, restrict, finA, resA, binA, binInt, ofConst, ofConst1, loadA, TK.isAgg, asVar, unA, builtinA, lenOpA, lenA, ileb_cast, ileb_eq, ieqb_dec, indexAddrA, inB_dec, evPairs, storeA, AV.cellsOf, pairsOf, xI_nil, binBool, gcE, evOpt, xI_block, xI_loopH, xI_condM, xI_exitM, xI_skip, xI_blk, exitA, ty2, ty3, ty33, ty73, eK109_0_0, eK109_1_2]
    simp only [R109_1_2, b109, Try.f109, Option.getD, fstC, sndC, bodyC, thnC, elsC]
    simp [xI_seq, xI_region, xI_ret, regA, regOps, runOps, opStep, wantedA, opA, evo, evos, calleeA, lk, nif_eq, putE, paramsE, valS, val2, keepE, restrict, finA, resA, binA, binInt, ofConst, ofConst1, loadA, TK.isAgg, asVar, unA, builtinA, lenOpA, lenA, ileb_cast, ileb_eq, ieqb_dec, indexAddrA, inB_dec, evPairs, storeA, AV.cellsOf, pairsOf, xI_nil, binBool, gcE, evOpt, xI_block, xI_loopH, xI_condM, xI_exitM, xI_skip, xI_blk, exitA, ty2, ty3, ty33, ty73, eK109_0_0, eK109_1_2]
  | succ k ih =>
    intro R out n σ u v rest hR ho hl hlo hn hk hu hv
    by_cases h0 : n = 0
    · subst h0
      obtain ⟨b, rfl, hb⟩ := hv
      refine ⟨σ, b, ?_, by simpa [power] using hb⟩
      rw [fi109]
      rw [xl109_1]
      simp only [B109_1, b109, Try.f109, Option.getD, fstC, sndC, bodyC, thnC, elsC]
      simp [xI_seq, xI_region, xI_ret, regA, regOps, runOps, opStep, wantedA, opA, evo, evos, calleeA, lk, nif_eq, putE, paramsE, valS, val2, keepE, restrict, finA, resA, binA, binInt, ofConst, ofConst1, loadA, TK.isAgg, asVar, unA, builtinA, lenOpA, lenA, ileb_cast, ileb_eq, ieqb_dec, indexAddrA, inB_dec, evPairs, storeA, AV.cellsOf, pairsOf, xI_nil, binBool, gcE, evOpt, xI_block, xI_loopH, xI_condM, xI_exitM, xI_skip, xI_blk, exitA, ty2, ty3, ty33, ty73, eK109_0_0, eK109_1_2]
      simp only [R109_1_2, b109, Try.f109, Option.getD, fstC, sndC, bodyC, thnC, elsC]
      simp [xI_seq, xI_region, xI_ret, regA, regOps, runOps, opStep, wantedA, opA, evo, evos, calleeA, lk, nif_eq, putE, paramsE, valS, val2, keepE, restrict, finA, resA, binA, binInt, ofConst, ofConst1, loadA, TK.isAgg, asVar, unA, builtinA, lenOpA, lenA, ileb_cast, ileb_eq, ieqb_dec, indexAddrA, inB_dec, evPairs, storeA, AV.cellsOf, pairsOf, xI_nil, binBool, gcE, evOpt, xI_block, xI_loopH, xI_condM, xI_exitM, xI_skip, xI_blk, exitA, ty2, ty3, ty33, ty73, eK109_0_0, eK109_1_2]
    · have h62 : 2 ^ (k + 1) ≤ 2 ^ 63 := Nat.pow_le_pow_right (by decide) hk
      have hp : 0 < n := by omega
      have hdv : divN n 2 < 2 ^ k := by show n / 2 < 2 ^ k; omega
      have hdw : wrapA .i64 ((n : Int) / 2) = ((divN n 2 : Nat) : Int) := n_wrap (a := divN n 2) (by omega)
      by_cases hm : modN n 2 = 1
      · have hm' : ((modN n 2 : Nat) : Int) = 1 := by omega
        obtain ⟨b, rfl, hb⟩ := hv
        have hio : IsL σ (.sl b 0 R.length R.length) (nints out) := IsL.of_row hb (by rw [nints_length, hlo])
        obtain ⟨σ1, b1, c1, r1, o1, _⟩ := r138 out R ho (by omega) hR (by omega) σ _ _ hio hu
        obtain ⟨σ2, b2, c2, r2, o2, _⟩ := r138 R R hR hl hR (by omega) σ1 _ _ (hu.old o1) (hu.old o1)
        obtain ⟨σ', b', h1, h2⟩ := ih (times R R) (times out R) (divN n 2) σ2 (.sl b2 0 R.length R.length) (.sl b1 0 R.length R.length) [] (times_62 hR) (times_62 ho) (by rw [times_length]; exact hl) (by rw [times_length, times_length]) hdv (by omega)
          (IsL.of_row r2 (by rw [nints_length, times_length])) ⟨b1, by rw [times_length], r1.old o2⟩
        rw [times_length] at h1
        refine ⟨σ', b', ?_, by rw [show power (k + 1) R out n = power k (times R R) (times out R) (divN n 2) by simp only [power]; rw [if_neg h0, if_pos (show n % 2 = 1 from hm)]; rfl]; exact h2⟩
        rw [fi109] at h1 ⊢
        rw [xl109_1]
        simp only [B109_1, b109, Try.f109, Option.getD, fstC, sndC, bodyC, thnC, elsC]
        simp [xI_seq, xI_region, xI_ret, regA, regOps, runOps, opStep, wantedA, opA, evo, evos, calleeA, lk, nif_eq, putE, paramsE, valS, val2, keepE, restrict, finA, resA, binA, binInt, ofConst, ofConst1, loadA, TK.isAgg, asVar, unA, builtinA, lenOpA, lenA, ileb_cast, ileb_eq, ieqb_dec, indexAddrA, inB_dec, evPairs, storeA, AV.cellsOf, pairsOf, xI_nil, binBool, gcE, evOpt, xI_block, xI_loopH, xI_condM, xI_exitM, xI_skip, xI_blk, exitA, ty2, ty3, ty33, ty73, eK109_0_0, eK109_1_2, hp, hm', hm, c1, c2, modI, hdw, h0]
        simpa using h1
      · have hm' : ¬ ((modN n 2 : Nat) : Int) = 1 := by omega
        obtain ⟨b, rfl, hb⟩ := hv
        obtain ⟨σ2, b2, c2, r2, o2, _⟩ := r138 R R hR hl hR (by omega) σ _ _ hu hu
        obtain ⟨σ', b', h1, h2⟩ := ih (times R R) out (divN n 2) σ2 (.sl b2 0 R.length R.length) (.sl b 0 R.length R.length) [] (times_62 hR) ho (by rw [times_length]; exact hl) (by rw [times_length, hlo]) hdv (by omega)
          (IsL.of_row r2 (by rw [nints_length, times_length])) ⟨b, by rw [times_length], hb.old o2⟩
        rw [times_length] at h1
        refine ⟨σ', b', ?_, by rw [show power (k + 1) R out n = power k (times R R) out (divN n 2) by simp only [power]; rw [if_neg h0, if_neg (show ¬ n % 2 = 1 from hm)]; rfl]; exact h2⟩
        rw [fi109] at h1 ⊢
        rw [xl109_1]
        simp only [B109_1, b109, Try.f109, Option.getD, fstC, sndC, bodyC, thnC, elsC]
        simp [xI_seq, xI_region, xI_ret, regA, regOps, runOps, opStep, wantedA, opA, evo, evos, calleeA, lk, nif_eq, putE, paramsE, valS, val2, keepE, restrict, finA, resA, binA, binInt, ofConst, ofConst1, loadA, TK.isAgg, asVar, unA, builtinA, lenOpA, lenA, ileb_cast, ileb_eq, ieqb_dec, indexAddrA, inB_dec, evPairs, storeA, AV.cellsOf, pairsOf, xI_nil, binBool, gcE, evOpt, xI_block, xI_loopH, xI_condM, xI_exitM, xI_skip, xI_blk, exitA, ty2, ty3, ty33, ty73, eK109_0_0, eK109_1_2, hp, hm', hm, c2, modI, hdw, h0]
        simpa using h1
theorem l109a (R : List Nat) (hR : ∀ r ∈ R, r < 2 ^ 62) (hl : R.length ≤ 62) (n : Nat) (hn : n < 2 ^ 63) : ∀ (m k : Nat) (σ : St) (b : Nat), k + m = R.length → Row σ b (nints (units 0 k)) →
    ∃ σ' b', exI TT (FI.of Try.f109 (TT.an 109)) K109_0 [(0, .lst R.length (ints (nints R))), (1, .int .i64 n), (5, .sl b 0 k k), (6, .int .i64 k)] σ = some (.sl b' 0 R.length R.length, σ') ∧ Row σ' b' (nints (power 63 R (units 0 R.length) n)) := by
  intro m
  induction m with
  | zero =>
    intro k σ b hk hr
    obtain rfl : k = R.length := by omega
    obtain ⟨σ', b', h1, h2⟩ := l109b 63 R (units 0 R.length) n σ (.lst R.length (ints (nints R))) (.sl b 0 R.length R.length) [(6, .int .i64 R.length), (11, .bool false)] hR (units_62 _ hl) (by omega) (by simp [units_length]) hn (by decide) (.inl (by rw [nints_length])) ⟨b, rfl, hr⟩
    refine ⟨σ', b', ?_, h2⟩
    rw [← h1]
    rw [fi109]
    rw [xl109_0]
    simp only [B109_0, b109, Try.f109, Option.getD, fstC, sndC, bodyC, thnC, elsC]
    simp [xI_seq, xI_region, xI_ret, regA, regOps, runOps, opStep, wantedA, opA, evo, evos, calleeA, lk, nif_eq, putE, paramsE, valS, val2, keepE, restrict, finA, resA, binA, binInt, ofConst, ofConst1, loadA, TK.isAgg, asVar, unA, builtinA, lenOpA, lenA, ileb_cast, ileb_eq, ieqb_dec, indexAddrA, inB_dec, evPairs, storeA, AV.cellsOf, pairsOf, xI_nil, binBool, gcE, evOpt, xI_block, xI_loopH, xI_condM, xI_exitM, xI_skip, xI_blk, exitA, ty2, ty3, ty33, ty73, eK109_0_0, eK109_1_2]
    simp only [R109_0_0, b109, Try.f109, Option.getD, fstC, sndC, bodyC, thnC, elsC]
    simp [xI_seq, xI_region, xI_ret, regA, regOps, runOps, opStep, wantedA, opA, evo, evos, calleeA, lk, nif_eq, putE, paramsE, valS, val2, keepE, restrict, finA, resA, binA, binInt, ofConst, ofConst1, loadA, TK.isAgg, asVar, unA, builtinA, lenOpA, lenA, ileb_cast, ileb_eq, ieqb_dec, indexAddrA, inB_dec, evPairs, storeA, AV.cellsOf, pairsOf, xI_nil, binBool, gcE, evOpt, xI_block, xI_loopH, xI_condM, xI_exitM, xI_skip, xI_blk, exitA, ty2, ty3, ty33, ty73, eK109_0_0, eK109_1_2]
    rfl
  | succ m ih =>
    intro k σ b hk hr
    obtain ⟨σ1, ha, hr1, hn1, _⟩ := nints_append_row (x := pw k) ty33 ty2 hr (n := k) (by simp [units_length]) (by omega)
    rw [show units 0 k ++ [pw k] = units 0 (k + 1) by rw [units_append]; simp [pw]] at hr1
    obtain ⟨σ', b', h1, h2⟩ := ih (k + 1) σ1 _ (by omega) hr1
    refine ⟨σ', b', ?_, h2⟩
    have hlt : ¬ R.length ≤ k := by omega
    have hlt2 : k < R.length := by omega
    have hw := wrapS (n := k) (by omega)
    have hcu : wrapA .u64 (k : Int) = (k : Int) := n_wrapu (by omega)
    have a1 := sh_1 (b := k) (by omega)
    rw [fi109] at h1 ⊢
    rw [xl109_0]
    simp only [B109_0, b109, Try.f109, Option.getD, fstC, sndC, bodyC, thnC, elsC]
    simp [xI_seq, xI_region, xI_ret, regA, regOps, runOps, opStep, wantedA, opA, evo, evos, calleeA, lk, nif_eq, putE, paramsE, valS, val2, keepE, restrict, finA, resA, binA, binInt, ofConst, ofConst1, loadA, TK.isAgg, asVar, unA, builtinA, lenOpA, lenA, ileb_cast, ileb_eq, ieqb_dec, indexAddrA, inB_dec, evPairs, storeA, AV.cellsOf, pairsOf, xI_nil, binBool, gcE, evOpt, xI_block, xI_loopH, xI_condM, xI_exitM, xI_skip, xI_blk, exitA, ty2, ty3, ty33, ty73, eK109_0_0, eK109_1_2, bs1, ha, hw, hlt, hlt2, a1, hcu, convA]
    simpa using h1
theorem s109 (R : List Nat) (hR : ∀ r ∈ R, r < 2 ^ 62) (hl : R.length ≤ 62) (n : Nat) (hn : n < 2 ^ 63) : FnS TT 109 [.lst R.length (ints (nints R)), .int .i64 n] (nints (power 63 R (units 0 R.length) n)) := by
  obtain ⟨σ', b', h1, o, h2, _⟩ := l109a R hR hl n hn R.length 0 ((⟨[], 0⟩ : St).push ⟨ints [], 1, false⟩) 0 (by omega) ⟨false, rfl, by decide⟩
  have hpl : ∀ (k : Nat) (R out : List Nat) (n : Nat), out.length = R.length → (power k R out n).length = R.length := by
    intro k
    induction k with
    | zero => intro R out n h; exact h
    | succ k ih =>
      intro R out n h
      simp only [power]
      split
      · exact h
      · rw [ih _ _ _ (by split <;> simp [times_length, h]), times_length]
  refine FnS.mk fn109 rfl md109 ⟨σ', b', o, ?_, h2⟩
  rw [nints_length, hpl _ _ _ _ (by simp [units_length]), ← h1, fi109]
  simp [xI_seq, xI_region, xI_ret, regA, regOps, runOps, opStep, wantedA, opA, evo, evos, calleeA, lk, nif_eq, putE, paramsE, valS, val2, keepE, restrict, finA, resA, binA, binInt, ofConst, ofConst1, loadA, TK.isAgg, asVar, unA, builtinA, lenOpA, lenA, ileb_cast, ileb_eq, ieqb_dec, indexAddrA, inB_dec, evPairs, storeA, AV.cellsOf, pairsOf, xI_nil, binBool, gcE, evOpt, xI_block, xI_loopH, xI_condM, xI_exitM, xI_skip, xI_blk, exitA, ty2, ty3, ty33, ty73, eK109_0_0, eK109_1_2, bn0]
  rfl

end Go.Proofs.Ytonnbgjbohbibaa
