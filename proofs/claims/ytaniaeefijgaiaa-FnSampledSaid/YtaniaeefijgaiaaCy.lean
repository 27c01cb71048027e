/- Contracts: sorting few numbers. Nothing is claimed here; no condition. -/
import Derived.Test.YtaniaeefijgaiaaCx
namespace Go.Proofs.Ytaniaeefijgaiaa
open Go Go.Abs
set_option linter.unusedSimpArgs false
set_option linter.unusedVariables false
theorem c129 (n : Int) (σ : St) : callI TT 129 [.int .i64 n] σ = some (.bool false, σ) := by
  refine (FnV.mk (args' := [.int .i64 n]) fn129 rfl md129 ⟨⟨[], 0⟩, ?_⟩ (fun _ => rfl) rfl) σ _ rfl
  rw [fi129]
  simp [xI_seq, xI_region, xI_ret, regA, regOps, runOps, opStep, wantedA, opA, evo, evos, calleeA, lk, nif_eq, putE, paramsE, valS, val2, keepE, restrict, finA, resA, binA, binInt, ofConst, ofConst1, loadA, TK.isAgg, asVar, unA, builtinA, lenOpA, lenA, ileb_cast, ileb_eq, ieqb_dec, indexAddrA, inB_dec, evPairs, storeA, AV.cellsOf, pairsOf, xI_nil, binBool, gcE, evOpt, xI_block, xI_loopH, xI_condM, xI_exitM, xI_skip, xI_blk, exitA, ty2]

theorem c119 (a b : Int) (σ : St) : callI TT 119 [.int .i64 a, .int .i64 b] σ = some (.bool (decide (a < b)), σ) := by
  refine (FnV.mk (args' := [.int .i64 a, .int .i64 b]) fn119 rfl md119 ⟨⟨[], 0⟩, ?_⟩ (fun _ => rfl) rfl) σ _ rfl
  rw [fi119]
  by_cases h : a < b
  · have h2 : ¬ b ≤ a := by omega
    simp [xI_seq, xI_region, xI_ret, regA, regOps, runOps, opStep, wantedA, opA, evo, evos, calleeA, lk, nif_eq, putE, paramsE, valS, val2, keepE, restrict, finA, resA, binA, binInt, ofConst, ofConst1, loadA, TK.isAgg, asVar, unA, builtinA, lenOpA, lenA, ileb_cast, ileb_eq, ieqb_dec, indexAddrA, inB_dec, evPairs, storeA, AV.cellsOf, pairsOf, xI_nil, binBool, gcE, evOpt, xI_block, xI_loopH, xI_condM, xI_exitM, xI_skip, xI_blk, exitA, ty2, ty4, c129, h, h2]
  · have h2 : b ≤ a := by omega
    simp [xI_seq, xI_region, xI_ret, regA, regOps, runOps, opStep, wantedA, opA, evo, evos, calleeA, lk, nif_eq, putE, paramsE, valS, val2, keepE, restrict, finA, resA, binA, binInt, ofConst, ofConst1, loadA, TK.isAgg, asVar, unA, builtinA, lenOpA, lenA, ileb_cast, ileb_eq, ieqb_dec, indexAddrA, inB_dec, evPairs, storeA, AV.cellsOf, pairsOf, xI_nil, binBool, gcE, evOpt, xI_block, xI_loopH, xI_condM, xI_exitM, xI_skip, xI_blk, exitA, ty2, ty4, c129, h, h2]
/-- A number let sink to its place among those ahead of it. -/
def bub : Nat → List Int → List Int
  | 0, l => l
  | j + 1, l => if l.getD (j + 1) 0 < l.getD j 0 then bub j (swp l (j + 1) j) else l
theorem bub_length : ∀ (j : Nat) (l : List Int), (bub j l).length = l.length
  | 0, _ => rfl
  | j + 1, l => by
    simp only [bub]
    split
    · rw [bub_length j, swp_length]
    · rfl
def isrt : Nat → Nat → List Int → List Int
  | 0, _, l => l
  | m + 1, i, l => isrt m (i + 1) (bub i l)
theorem isrt_length : ∀ (m i : Nat) (l : List Int), (isrt m i l).length = l.length
  | 0, _, _ => rfl
  | m + 1, i, l => by rw [isrt, isrt_length m, bub_length]

noncomputable def b113 : Code := Try.f113.body.getD .skip
noncomputable def B113_0 : Code := (bodyC (bodyC (sndC b113)))
noncomputable def K113_0 : List It := .lp B113_0 :: .blk 0 :: []
theorem xl113_0 {fi : FI} {env : Env} {σ : St} : exI TT fi K113_0 env σ = exI TT fi (.code B113_0 :: K113_0) env σ := by unfold K113_0; exact xI_lp
noncomputable def R113_0_0 : List It := []
theorem eK113_0_0 : exitA 0 K113_0 = some R113_0_0 := rfl
noncomputable def B113_1 : Code := (bodyC (bodyC (sndC (bodyC (fstC (sndC (bodyC (bodyC (sndC b113)))))))))
noncomputable def K113_1 : List It := .lp B113_1 :: .blk 2 :: .blk 1 :: .code (sndC (sndC (bodyC (bodyC (sndC b113))))) :: K113_0
theorem xl113_1 {fi : FI} {env : Env} {σ : St} : exI TT fi K113_1 env σ = exI TT fi (.code B113_1 :: K113_1) env σ := by unfold K113_1; exact xI_lp
noncomputable def R113_1_2 : List It := .blk 1 :: .code (sndC (sndC (bodyC (bodyC (sndC b113))))) :: K113_0
theorem eK113_1_2 : exitA 2 K113_1 = some R113_1_2 := rfl
noncomputable def R113_1_1 : List It := .code (sndC (sndC (bodyC (bodyC (sndC b113))))) :: K113_0
theorem eK113_1_1 : exitA 1 K113_1 = some R113_1_1 := rfl
theorem eK113_1_0 : exitA 0 K113_1 = some R113_0_0 := rfl
theorem l113_1 (b n i : Nat) (hn : n < 1000) : ∀ (j : Nat) (σ : St) (l : List Int), j < n → l.length = n → Row σ b l →
    ∃ σ' j', exI TT (FI.of Try.f113 (TT.an 113)) K113_1 [(0, .sl b 0 n n), (1, .int .i64 0), (2, .int .i64 n), (6, .int .i64 i), (7, .int .i64 j)] σ = exI TT (FI.of Try.f113 (TT.an 113)) R113_1_2 [(0, .sl b 0 n n), (1, .int .i64 0), (2, .int .i64 n), (6, .int .i64 i), (7, .int .i64 j'), (30, .bool false)] σ' ∧ Row σ' b (bub j l) ∧ But b σ σ' := by
  intro j
  induction j with
  | zero =>
    intro σ l hj hl hr
    refine ⟨σ, 0, ?_, hr, rfl, fun _ _ => rfl⟩
    rw [fi113]
    rw [xl113_1]
    simp only [B113_1, b113, Try.f113, Option.getD, fstC, sndC, bodyC, thnC, elsC]
    simp [xI_seq, xI_region, xI_ret, regA, regOps, runOps, opStep, wantedA, opA, evo, evos, calleeA, lk, nif_eq, putE, paramsE, valS, val2, keepE, restrict, finA, resA, binA, binInt, ofConst, ofConst1, loadA, TK.isAgg, asVar, unA, builtinA, lenOpA, lenA, ileb_cast, ileb_eq, ieqb_dec, indexAddrA, inB_dec, evPairs, storeA, AV.cellsOf, pairsOf, xI_nil, binBool, gcE, evOpt, xI_block, xI_loopH, xI_condM, xI_exitM, xI_skip, xI_blk, exitA, ty2, ty3, ty22, eK113_0_0, eK113_1_2, eK113_1_1, eK113_1_0]
  | succ j ih =>
    intro σ l hj hl hr
    have g1 := hr.read (getD_get (l := l) (i := j + 1) (by omega))
    have g2 := hr.read (getD_get (l := l) (i := j) (by omega))
    have hlt2 : (j : Int) + 1 < (n : Int) := by omega
    have hlt3 : (j : Int) < (n : Int) := by omega
    have hjn : j < n := by omega
    have hz : (0 : Int) ≤ (j : Int) + 1 := by omega
    have hz2 : ¬ (j : Int) + 1 ≤ 0 := by omega
    have htn : ((j : Int) + 1).toNat = j + 1 := by omega
    have hw1 : wrapA .i64 (j : Int) = (j : Int) := wrapA_id (by omega) (by omega)
    rw [show ((j + 1 : Nat) : Int) = (j : Int) + 1 by omega]
    by_cases hlt : l.getD (j + 1) 0 < l.getD j 0
    · obtain ⟨σ1, s1, r1, n1, o1⟩ := store_row (i := j + 1) (x := l.getD j 0) hr (by omega)
      obtain ⟨σ2, s2, r2, n2, o2⟩ := store_row (i := j) (x := l.getD (j + 1) 0) r1 (by simp; omega)
      obtain ⟨σ', j', h1, h2, h3, h4⟩ := ih σ2 (swp l (j + 1) j) (by omega) (by rw [swp_length]; exact hl) r2
      have hb : bub (j + 1) l = bub j (swp l (j + 1) j) := by simp only [bub]; rw [if_pos hlt]
      rw [hb]
      refine ⟨σ', j', ?_, h2, h3.trans (n2.trans n1), fun c hc => (h4 c hc).trans ((o2 c hc).trans (o1 c hc))⟩
      generalize l.getD (j + 1) 0 = u at *
      generalize l.getD j 0 = v at *
      rw [fi113] at h1 ⊢
      rw [xl113_1]
      simp only [B113_1, b113, Try.f113, Option.getD, fstC, sndC, bodyC, thnC, elsC]
      simp [xI_seq, xI_region, xI_ret, regA, regOps, runOps, opStep, wantedA, opA, evo, evos, calleeA, lk, nif_eq, putE, paramsE, valS, val2, keepE, restrict, finA, resA, binA, binInt, ofConst, ofConst1, loadA, TK.isAgg, asVar, unA, builtinA, lenOpA, lenA, ileb_cast, ileb_eq, ieqb_dec, indexAddrA, inB_dec, evPairs, storeA, AV.cellsOf, pairsOf, xI_nil, binBool, gcE, evOpt, xI_block, xI_loopH, xI_condM, xI_exitM, xI_skip, xI_blk, exitA, ty2, ty3, ty22, eK113_0_0, eK113_1_2, eK113_1_1, eK113_1_0, c119, g1, g2, s1, s2, hlt, hlt2, hlt3, hz, hz2, htn, hw1, hjn]
      exact h1
    · have hb : bub (j + 1) l = l := by simp only [bub]; rw [if_neg hlt]
      rw [hb]
      refine ⟨σ, (j : Int) + 1, ?_, hr, rfl, fun _ _ => rfl⟩
      generalize l.getD (j + 1) 0 = u at *
      generalize l.getD j 0 = v at *
      have hlt5 : v ≤ u := by omega
      rw [fi113]
      rw [xl113_1]
      simp only [B113_1, b113, Try.f113, Option.getD, fstC, sndC, bodyC, thnC, elsC]
      simp [xI_seq, xI_region, xI_ret, regA, regOps, runOps, opStep, wantedA, opA, evo, evos, calleeA, lk, nif_eq, putE, paramsE, valS, val2, keepE, restrict, finA, resA, binA, binInt, ofConst, ofConst1, loadA, TK.isAgg, asVar, unA, builtinA, lenOpA, lenA, ileb_cast, ileb_eq, ieqb_dec, indexAddrA, inB_dec, evPairs, storeA, AV.cellsOf, pairsOf, xI_nil, binBool, gcE, evOpt, xI_block, xI_loopH, xI_condM, xI_exitM, xI_skip, xI_blk, exitA, ty2, ty3, ty22, eK113_0_0, eK113_1_2, eK113_1_1, eK113_1_0, c119, g1, g2, hlt, hlt5, hlt2, hlt3, hz, hz2, htn, hw1, hjn]
theorem l113_0 (b n : Nat) (hn : n < 1000) : ∀ (m i : Nat) (σ : St) (l : List Int), 1 ≤ i → (i + m = n ∨ (m = 0 ∧ n ≤ i ∧ i ≤ 1000)) → l.length = n → Row σ b l →
    ∃ σ', exI TT (FI.of Try.f113 (TT.an 113)) K113_0 [(0, .sl b 0 n n), (1, .int .i64 0), (2, .int .i64 n), (6, .int .i64 i)] σ = some (.tup [], σ') ∧ Row σ' b (isrt m i l) ∧ But b σ σ' := by
  intro m
  induction m with
  | zero =>
    intro i σ l h1i hi hl hr
    have hle : n ≤ i := by omega
    refine ⟨σ, ?_, hr, rfl, fun _ _ => rfl⟩
    rw [fi113]
    rw [xl113_0]
    simp only [B113_0, b113, Try.f113, Option.getD, fstC, sndC, bodyC, thnC, elsC]
    simp [xI_seq, xI_region, xI_ret, regA, regOps, runOps, opStep, wantedA, opA, evo, evos, calleeA, lk, nif_eq, putE, paramsE, valS, val2, keepE, restrict, finA, resA, binA, binInt, ofConst, ofConst1, loadA, TK.isAgg, asVar, unA, builtinA, lenOpA, lenA, ileb_cast, ileb_eq, ieqb_dec, indexAddrA, inB_dec, evPairs, storeA, AV.cellsOf, pairsOf, xI_nil, binBool, gcE, evOpt, xI_block, xI_loopH, xI_condM, xI_exitM, xI_skip, xI_blk, exitA, ty2, ty3, ty22, eK113_0_0, eK113_1_2, eK113_1_1, eK113_1_0, hle]
    simp only [R113_0_0, b113, Try.f113, Option.getD, fstC, sndC, bodyC, thnC, elsC]
    simp [xI_seq, xI_region, xI_ret, regA, regOps, runOps, opStep, wantedA, opA, evo, evos, calleeA, lk, nif_eq, putE, paramsE, valS, val2, keepE, restrict, finA, resA, binA, binInt, ofConst, ofConst1, loadA, TK.isAgg, asVar, unA, builtinA, lenOpA, lenA, ileb_cast, ileb_eq, ieqb_dec, indexAddrA, inB_dec, evPairs, storeA, AV.cellsOf, pairsOf, xI_nil, binBool, gcE, evOpt, xI_block, xI_loopH, xI_condM, xI_exitM, xI_skip, xI_blk, exitA, ty2, ty3, ty22, eK113_0_0, eK113_1_2, eK113_1_1, eK113_1_0]
  | succ m ih =>
    intro i σ l h1i hi hl hr
    have hlt : ¬ n ≤ i := by omega
    have hw : wrapA .i64 ((i : Int) + 1) = (i : Int) + 1 := wrapS (by omega)
    obtain ⟨σ1, j', h1, h2, h3, h4⟩ := l113_1 b n i hn i σ l (by omega) hl hr
    obtain ⟨σ', h5, h6, h7, h8⟩ := ih (i + 1) σ1 (bub i l) (by omega) (by omega) (by rw [bub_length]; exact hl) h2
    refine ⟨σ', ?_, h6, h7.trans h3, fun c hc => (h8 c hc).trans (h4 c hc)⟩
    rw [show ((i + 1 : Nat) : Int) = (i : Int) + 1 by omega] at h5
    have h9 : exI TT (FI.of Try.f113 (TT.an 113)) R113_1_2 [(0, .sl b 0 n n), (1, .int .i64 0), (2, .int .i64 n), (6, .int .i64 i), (7, .int .i64 j'), (30, .bool false)] σ1 = some (.tup [], σ') := by
      rw [fi113] at h5 ⊢
      simp only [R113_1_2, b113, Try.f113, Option.getD, fstC, sndC, bodyC, thnC, elsC]
      simp [xI_seq, xI_region, xI_ret, regA, regOps, runOps, opStep, wantedA, opA, evo, evos, calleeA, lk, nif_eq, putE, paramsE, valS, val2, keepE, restrict, finA, resA, binA, binInt, ofConst, ofConst1, loadA, TK.isAgg, asVar, unA, builtinA, lenOpA, lenA, ileb_cast, ileb_eq, ieqb_dec, indexAddrA, inB_dec, evPairs, storeA, AV.cellsOf, pairsOf, xI_nil, binBool, gcE, evOpt, xI_block, xI_loopH, xI_condM, xI_exitM, xI_skip, xI_blk, exitA, ty2, ty3, ty22, eK113_0_0, eK113_1_2, eK113_1_1, eK113_1_0, hw]
      exact h5
    rw [h9] at h1
    rw [fi113] at h1 ⊢
    rw [xl113_0]
    simp only [B113_0, b113, Try.f113, Option.getD, fstC, sndC, bodyC, thnC, elsC]
    simp [xI_seq, xI_region, xI_ret, regA, regOps, runOps, opStep, wantedA, opA, evo, evos, calleeA, lk, nif_eq, putE, paramsE, valS, val2, keepE, restrict, finA, resA, binA, binInt, ofConst, ofConst1, loadA, TK.isAgg, asVar, unA, builtinA, lenOpA, lenA, ileb_cast, ileb_eq, ieqb_dec, indexAddrA, inB_dec, evPairs, storeA, AV.cellsOf, pairsOf, xI_nil, binBool, gcE, evOpt, xI_block, xI_loopH, xI_condM, xI_exitM, xI_skip, xI_blk, exitA, ty2, ty3, ty22, eK113_0_0, eK113_1_2, eK113_1_1, eK113_1_0, hlt]
    exact h1
theorem m113 (σ : St) (b n : Nat) (l : List Int) (hn : n = l.length) (hs : n < 1000) (hr : Row σ b l) :
    ∃ σ', callI TT 113 [.sl b 0 n n, .int .i64 0, .int .i64 n] σ = some (.tup [], σ') ∧ Row σ' b (isrt (n - 1) 1 l) ∧ But b σ σ' := by
  obtain ⟨σ', h1, h2, h3⟩ := l113_0 b n hs (n - 1) 1 σ l (by omega) (by omega) hn.symm hr
  refine ⟨σ', ?_, h2, h3⟩
  have hw : wrapA .i64 1 = 1 := rfl
  rw [cI_0 fn113 rfl md113]
  rw [fi113] at h1 ⊢
  simp [xI_seq, xI_region, xI_ret, regA, regOps, runOps, opStep, wantedA, opA, evo, evos, calleeA, lk, nif_eq, putE, paramsE, valS, val2, keepE, restrict, finA, resA, binA, binInt, ofConst, ofConst1, loadA, TK.isAgg, asVar, unA, builtinA, lenOpA, lenA, ileb_cast, ileb_eq, ieqb_dec, indexAddrA, inB_dec, evPairs, storeA, AV.cellsOf, pairsOf, xI_nil, binBool, gcE, evOpt, xI_block, xI_loopH, xI_condM, xI_exitM, xI_skip, xI_blk, exitA, ty2, ty3, ty22, eK113_0_0, eK113_1_2, eK113_1_1, eK113_1_0, hw]
  exact h1

theorem m107 (σ : St) (b n : Nat) (l : List Int) (k : Int) (hn : n = l.length) (hs : n ≤ 12) (hr : Row σ b l) :
    ∃ σ', callI TT 107 [.sl b 0 n n, .int .i64 0, .int .i64 n, .int .i64 k] σ = some (.tup [], σ') ∧ Row σ' b (isrt (n - 1) 1 l) ∧ But b σ σ' := by
  obtain ⟨σ', h1, h2, h3⟩ := m113 σ b n l hn (by omega) hr
  refine ⟨σ', ?_, h2, h3⟩
  have hw : wrapA .i64 (n : Int) = n := wrapA_id (by omega) (by omega)
  have hle : (n : Int) ≤ 12 := by omega
  rw [cI_0 fn107 rfl md107, fi107]
  simp [xI_seq, xI_region, xI_ret, regA, regOps, runOps, opStep, wantedA, opA, evo, evos, calleeA, lk, nif_eq, putE, paramsE, valS, val2, keepE, restrict, finA, resA, binA, binInt, ofConst, ofConst1, loadA, TK.isAgg, asVar, unA, builtinA, lenOpA, lenA, ileb_cast, ileb_eq, ieqb_dec, indexAddrA, inB_dec, evPairs, storeA, AV.cellsOf, pairsOf, xI_nil, binBool, gcE, evOpt, xI_block, xI_loopH, xI_condM, xI_exitM, xI_skip, xI_blk, exitA, ty2, ty3, ty4, ty22, ty87, xI_lp, hw, hle, h1]

theorem v108_0 : ∃ r, FnV TT 108 [.int .u64 0] (.int .i64 r) := ⟨0, FnV.mk fn108 rfl md108 ⟨⟨[], 0⟩, exI_iff.2 ⟨10000, by kernel_rfl⟩⟩ (fun _ => rfl) rfl⟩
theorem v108_1 : ∃ r, FnV TT 108 [.int .u64 1] (.int .i64 r) := ⟨1, FnV.mk fn108 rfl md108 ⟨⟨[], 0⟩, exI_iff.2 ⟨10000, by kernel_rfl⟩⟩ (fun _ => rfl) rfl⟩
theorem v108_2 : ∃ r, FnV TT 108 [.int .u64 2] (.int .i64 r) := ⟨2, FnV.mk fn108 rfl md108 ⟨⟨[], 0⟩, exI_iff.2 ⟨10000, by kernel_rfl⟩⟩ (fun _ => rfl) rfl⟩
theorem v108_3 : ∃ r, FnV TT 108 [.int .u64 3] (.int .i64 r) := ⟨2, FnV.mk fn108 rfl md108 ⟨⟨[], 0⟩, exI_iff.2 ⟨10000, by kernel_rfl⟩⟩ (fun _ => rfl) rfl⟩
theorem v108_4 : ∃ r, FnV TT 108 [.int .u64 4] (.int .i64 r) := ⟨3, FnV.mk fn108 rfl md108 ⟨⟨[], 0⟩, exI_iff.2 ⟨10000, by kernel_rfl⟩⟩ (fun _ => rfl) rfl⟩
theorem v108_5 : ∃ r, FnV TT 108 [.int .u64 5] (.int .i64 r) := ⟨3, FnV.mk fn108 rfl md108 ⟨⟨[], 0⟩, exI_iff.2 ⟨10000, by kernel_rfl⟩⟩ (fun _ => rfl) rfl⟩
theorem v108_6 : ∃ r, FnV TT 108 [.int .u64 6] (.int .i64 r) := ⟨3, FnV.mk fn108 rfl md108 ⟨⟨[], 0⟩, exI_iff.2 ⟨10000, by kernel_rfl⟩⟩ (fun _ => rfl) rfl⟩
theorem v108_7 : ∃ r, FnV TT 108 [.int .u64 7] (.int .i64 r) := ⟨3, FnV.mk fn108 rfl md108 ⟨⟨[], 0⟩, exI_iff.2 ⟨10000, by kernel_rfl⟩⟩ (fun _ => rfl) rfl⟩
theorem v108_8 : ∃ r, FnV TT 108 [.int .u64 8] (.int .i64 r) := ⟨4, FnV.mk fn108 rfl md108 ⟨⟨[], 0⟩, exI_iff.2 ⟨10000, by kernel_rfl⟩⟩ (fun _ => rfl) rfl⟩
theorem v108_9 : ∃ r, FnV TT 108 [.int .u64 9] (.int .i64 r) := ⟨4, FnV.mk fn108 rfl md108 ⟨⟨[], 0⟩, exI_iff.2 ⟨10000, by kernel_rfl⟩⟩ (fun _ => rfl) rfl⟩
theorem v108_10 : ∃ r, FnV TT 108 [.int .u64 10] (.int .i64 r) := ⟨4, FnV.mk fn108 rfl md108 ⟨⟨[], 0⟩, exI_iff.2 ⟨10000, by kernel_rfl⟩⟩ (fun _ => rfl) rfl⟩
theorem v108_11 : ∃ r, FnV TT 108 [.int .u64 11] (.int .i64 r) := ⟨4, FnV.mk fn108 rfl md108 ⟨⟨[], 0⟩, exI_iff.2 ⟨10000, by kernel_rfl⟩⟩ (fun _ => rfl) rfl⟩
theorem v108_12 : ∃ r, FnV TT 108 [.int .u64 12] (.int .i64 r) := ⟨4, FnV.mk fn108 rfl md108 ⟨⟨[], 0⟩, exI_iff.2 ⟨10000, by kernel_rfl⟩⟩ (fun _ => rfl) rfl⟩
theorem v108 (n : Nat) (hn : n ≤ 12) : ∃ r, FnV TT 108 [.int .u64 n] (.int .i64 r) := by
  have h : n = 0 ∨ n = 1 ∨ n = 2 ∨ n = 3 ∨ n = 4 ∨ n = 5 ∨ n = 6 ∨ n = 7 ∨ n = 8 ∨ n = 9 ∨ n = 10 ∨ n = 11 ∨ n = 12 := by omega
  rcases h with rfl | rfl | rfl | rfl | rfl | rfl | rfl | rfl | rfl | rfl | rfl | rfl | rfl
  · exact v108_0
  · exact v108_1
  · exact v108_2
  · exact v108_3
  · exact v108_4
  · exact v108_5
  · exact v108_6
  · exact v108_7
  · exact v108_8
  · exact v108_9
  · exact v108_10
  · exact v108_11
  · exact v108_12
theorem m93 (σ : St) (b n : Nat) (l : List Int) (hn : n = l.length) (hs : n ≤ 12) (hr : Row σ b l) :
    ∃ σ', callI TT 93 [.sl b 0 n n] σ = some (.tup [], σ') ∧ Row σ' b (isrt (n - 1) 1 l) ∧ But b σ σ' := by
  obtain ⟨r, hv⟩ := v108 n hs
  obtain ⟨σ', h1, h2, h3⟩ := m107 σ b n l r hn hs hr
  refine ⟨σ', ?_, h2, h3⟩
  have hw : wrapA .u64 (n : Int) = n := by rw [wrapA_eq]; simp [IntKind.wrap, IntKind.bits, IntKind.signed]; omega
  have hb := hv σ [.int .u64 n] rfl
  rw [cI_0 fn93 rfl md93, fi93]
  simp [xI_seq, xI_region, xI_ret, regA, regOps, runOps, opStep, wantedA, opA, evo, evos, calleeA, lk, nif_eq, putE, paramsE, valS, val2, keepE, restrict, finA, resA, binA, binInt, ofConst, ofConst1, loadA, TK.isAgg, asVar, unA, builtinA, lenOpA, lenA, ileb_cast, ileb_eq, ieqb_dec, indexAddrA, inB_dec, evPairs, storeA, AV.cellsOf, pairsOf, xI_nil, binBool, gcE, evOpt, xI_block, xI_loopH, xI_condM, xI_exitM, xI_skip, xI_blk, exitA, ty2, ty3, ty22, ty77, convA, hw, hb, h1]

/-! ### Sinking numbers are put -/
theorem mem_put (x c : Int) : ∀ l : List Int, c ∈ put x l ↔ c = x ∨ c ∈ l
  | [] => by simp [put]
  | y :: r => by
    have h := mem_put x c r
    simp only [put]
    split
    · split
      · simp
      · rename_i h1 h2
        have : x = y := by omega
        subst this; simp
    · simp only [List.mem_cons, h]
      constructor
      · rintro (h | h | h) <;> simp [h]
      · rintro (h | h | h) <;> simp [h]
theorem put_snoc {x y : Int} (hxy : x < y) : ∀ s : List Int, x ∉ s → put x (s ++ [y]) = put x s ++ [y]
  | [], _ => by simp [put, hxy, Int.le_of_lt hxy]
  | z :: r, h => by
    have h1 : x ≠ z := fun e => h (by simp [e])
    have h2 := put_snoc hxy r (fun hm => h (by simp [hm]))
    simp only [List.cons_append, put]
    split
    · split
      · simp
      · omega
    · rw [h2]; simp
theorem put_all {x : Int} : ∀ s : List Int, (∀ c ∈ s, c < x) → put x s = s ++ [x]
  | [], _ => rfl
  | z :: r, h => by
    have h1 := h z (by simp)
    rw [put, if_neg (by omega), put_all r (fun c hc => h c (by simp [hc]))]; rfl
theorem put_len {x : Int} : ∀ s : List Int, x ∉ s → (put x s).length = s.length + 1
  | [], _ => rfl
  | z :: r, h => by
    have h1 : x ≠ z := fun e => h (by simp [e])
    have h2 := put_len (x := x) r (fun hm => h (by simp [hm]))
    simp only [put]
    split
    · split
      · simp
      · omega
    · simp [h2]
theorem put_rises {x : Int} : ∀ s : List Int, s.Pairwise (· < ·) → (put x s).Pairwise (· < ·)
  | [], _ => by simp [put]
  | z :: r, h => by
    have h1 := List.pairwise_cons.1 h
    simp only [put]
    split
    · split
      · rename_i h2 h3
        exact List.pairwise_cons.2 ⟨fun c hc => by
          rcases List.mem_cons.1 hc with rfl | hc
          · exact h3
          · have := h1.1 c hc; omega, h⟩
      · exact h
    · rename_i h2
      exact List.pairwise_cons.2 ⟨fun c hc => by
        rcases (mem_put x c r).1 hc with rfl | hc
        · omega
        · exact h1.1 c hc, put_rises r h1.2⟩
theorem bub_put : ∀ (n : Nat) (s rest : List Int) (x : Int), s.length = n → s.Pairwise (· < ·) → x ∉ s → bub n (s ++ x :: rest) = put x s ++ rest
  | 0, s, rest, x, hn, _, _ => by
    have : s = [] := List.length_eq_zero_iff.1 hn
    subst this; rfl
  | n + 1, s, rest, x, hn, hp, hx => by
    obtain ⟨s', y, rfl⟩ : ∃ s' y, s = s' ++ [y] := ⟨s.dropLast, s.getLast (by intro e; simp [e] at hn), (List.dropLast_concat_getLast _).symm⟩
    have hn' : s'.length = n := by simpa using hn
    have hp' := List.pairwise_append.1 hp
    subst hn'
    have e1 : (s' ++ [y] ++ x :: rest)[s'.length + 1]? = some x := by rw [List.getElem?_append_right (by simp)]; simp
    have e2 : (s' ++ [y] ++ x :: rest)[s'.length]? = some y := by simp
    have g1 : (s' ++ [y] ++ x :: rest).getD (s'.length + 1) 0 = x := by rw [List.getD_eq_getElem?_getD, e1]; rfl
    have g2 : (s' ++ [y] ++ x :: rest).getD s'.length 0 = y := by rw [List.getD_eq_getElem?_getD, e2]; rfl
    have hx1 : x ∉ s' := fun h => hx (by simp [h])
    have hxy : x ≠ y := fun e => hx (by simp [e])
    simp only [bub, g1, g2]
    split
    · rename_i h
      have hs : swp (s' ++ [y] ++ x :: rest) (s'.length + 1) s'.length = s' ++ x :: (y :: rest) := by
        unfold swp
        rw [g1, g2]
        simp [List.set_append]
      rw [hs, bub_put s'.length s' (y :: rest) x rfl hp'.1 hx1, put_snoc h s' hx1]; simp
    · rename_i h
      rw [put_all (s' ++ [y]) (fun c hc => by
        rcases List.mem_append.1 hc with hc | hc
        · have := hp'.2.2 c hc y (by simp); omega
        · have : c = y := by simpa using hc
          omega)]
      simp
theorem isrt_put : ∀ (rest s : List Int), s.Pairwise (· < ·) → (∀ c ∈ rest, c ∉ s) → rest.Nodup → isrt rest.length s.length (s ++ rest) = rest.foldl (fun s x => put x s) s
  | [], s, _, _, _ => by simp [isrt]
  | x :: rest, s, hp, hd, hn => by
    have hx := hd x (by simp)
    have hn' := List.nodup_cons.1 hn
    rw [List.length_cons, isrt, bub_put s.length s rest x rfl hp hx, List.foldl_cons, ← put_len s hx]
    exact isrt_put rest (put x s) (put_rises s hp) (fun c hc h => by
      rcases (mem_put x c s).1 h with rfl | h
      · exact hn'.1 hc
      · exact hd c (by simp [hc]) h) hn'.2
/-- Sorting different numbers is putting one after another. -/
theorem sort_put (l : List Int) (hn : l.Nodup) : isrt (l.length - 1) 1 l = l.foldl (fun s x => put x s) [] := by
  cases l with
  | nil => rfl
  | cons a r =>
    have hn' := List.nodup_cons.1 hn
    have h := isrt_put r [a] (by simp) (fun c hc h => by simp at h; subst h; exact hn'.1 hc) hn'.2
    simpa [put] using h

end Go.Proofs.Ytaniaeefijgaiaa
