/- Contracts: samples. Nothing is claimed here; no condition. -/
import Derived.Test.YtaniaeefijgaiaaCy
namespace Go.Proofs.Ytaniaeefijgaiaa
open Go Go.Abs
set_option linter.unusedSimpArgs false
set_option linter.unusedVariables false
def sampO (base : Int) : List Int → Nat → List Int → Option (List Int)
  | [], _, out => some out
  | c :: r, i, out => if inR c 0 (base + i) = true then sampO base r (i + 1) (out ++ [if c ∈ out then base + i else c]) else none
def sampS (base : Int) : List Int → Nat → List Int → Option (List Int)
  | [], _, s => some s
  | c :: r, i, s => if inR c 0 (base + i) = true then sampS base r (i + 1) (put (if c ∈ s then base + i else c) s) else none
theorem mem_puts (c : Int) : ∀ (out s : List Int), c ∈ out.foldl (fun s x => put x s) s ↔ c ∈ out ∨ c ∈ s
  | [], s => by simp
  | x :: r, s => by
    rw [List.foldl_cons, mem_puts c r, mem_put]
    constructor
    · rintro (h | h | h) <;> simp [h]
    · intro h
      rcases h with h | h
      · rcases List.mem_cons.1 h with h | h <;> simp [h]
      · simp [h]
theorem samp_eq (base : Int) : ∀ (r : List Int) (i : Nat) (out : List Int), out.Nodup → (∀ e ∈ out, e < base + i) →
    (sampO base r i out).map (fun o => isrt (o.length - 1) 1 o) = sampS base r i (out.foldl (fun s x => put x s) [])
  | [], i, out, hn, _ => by simp [sampO, sampS, sort_put out hn]
  | c :: r, i, out, hn, hb => by
    have hm : (c ∈ out.foldl (fun s x => put x s) []) ↔ c ∈ out := by rw [mem_puts]; simp
    simp only [sampO, sampS]
    split
    · rename_i hin
      have hin2 := inR_iff.1 hin
      have he : (if c ∈ out.foldl (fun s x => put x s) [] then base + i else c) = (if c ∈ out then base + i else c) := by simp [hm]
      rw [he]
      generalize hE : (if c ∈ out then base + (i : Int) else c) = e
      have hnew : e ∉ out := by
        rw [← hE]; split
        · intro h; have := hb _ h; omega
        · assumption
      have hle : e ≤ base + i := by rw [← hE]; split <;> omega
      have := samp_eq base r (i + 1) (out ++ [e]) (by
        rw [List.nodup_append]
        exact ⟨hn, by simp, fun a ha b hb' => by simp at hb'; subst hb'; exact fun e' => hnew (e' ▸ ha)⟩) (fun a ha => by
        rcases List.mem_append.1 ha with ha | ha
        · have := hb a ha; omega
        · have : a = e := by simpa using ha
          omega)
      rw [this, List.foldl_append]; rfl
    · rfl
theorem sampO_length (base : Int) : ∀ (r : List Int) (i : Nat) (out o : List Int), sampO base r i out = some o → o.length = out.length + r.length
  | [], _, out, o, h => by simp [sampO] at h; simp [h]
  | c :: r, i, out, o, h => by
    simp only [sampO] at h
    split at h
    · rw [sampO_length base r _ _ _ h]; simp; omega
    · cases h
def sampR (n : Int) (l : List Int) : Option (List Int) := if inR n 1 12 = true ∧ (l.length : Int) ≤ n then sampS (n - l.length) l 0 [] else none

noncomputable def b43 : Code := Try.f43.body.getD .skip
noncomputable def B43_0 : Code := (bodyC (bodyC (sndC (fstC (sndC (sndC (sndC (sndC b43))))))))
noncomputable def K43_0 : List It := .lp B43_0 :: .blk 0 :: .code (sndC (sndC (sndC (sndC (sndC b43))))) :: []
theorem xl43_0 {fi : FI} {env : Env} {σ : St} : exI TT fi K43_0 env σ = exI TT fi (.code B43_0 :: K43_0) env σ := by unfold K43_0; exact xI_lp
noncomputable def R43_0_0 : List It := .code (sndC (sndC (sndC (sndC (sndC b43))))) :: []
theorem eK43_0_0 : exitA 0 K43_0 = some R43_0_0 := rfl
theorem l43 (l : List Int) (n k : Nat) (hk : k = l.length) (hkn : k ≤ n) (hn : n ≤ 12) : ∀ (suf pre : List Int) (σ : St) (b c : Nat) (out : List Int), l = pre ++ suf → out.length = c → c = pre.length → Row σ b out →
    (∀ o, sampO ((n : Int) - k) suf pre.length out = some o → ∃ σ' b' c', exI TT (FI.of Try.f43 (TT.an 43)) K43_0 [(0, .int .i64 n), (6, .int .i64 k), (7, .sl b 0 c c), (22, .lst k (ints l)), (23, .int .i64 k), (24, .int .i64 pre.length)] σ = some (.tup [.sl b' 0 c' c', .bool true], σ') ∧ Row σ' b' (isrt (o.length - 1) 1 o) ∧ c' = o.length) ∧
    (sampO ((n : Int) - k) suf pre.length out = none → ∃ σ', exI TT (FI.of Try.f43 (TT.an 43)) K43_0 [(0, .int .i64 n), (6, .int .i64 k), (7, .sl b 0 c c), (22, .lst k (ints l)), (23, .int .i64 k), (24, .int .i64 pre.length)] σ = some (.tup [.nilS, .bool false], σ')) := by
  intro suf
  induction suf with
  | nil =>
    intro pre σ b c out hl hc hcp hr
    have hll : k = pre.length := by rw [hk, hl]; simp
    refine ⟨fun o ho => ?_, fun h => by simp [sampO] at h⟩
    obtain rfl : out = o := by simpa [sampO] using ho
    obtain ⟨σ', h1, h2, h3⟩ := m93 σ b c out hc.symm (by omega) hr
    refine ⟨σ', b, c, ?_, by rw [← hc] at h2; exact h2, hc.symm⟩
    subst hll
    rw [fi43]
    rw [xl43_0]
    simp only [B43_0, b43, Try.f43, Option.getD, fstC, sndC, bodyC, thnC, elsC]
    simp [xI_seq, xI_region, xI_ret, regA, regOps, runOps, opStep, wantedA, opA, evo, evos, calleeA, lk, nif_eq, putE, paramsE, valS, val2, keepE, restrict, finA, resA, binA, binInt, ofConst, ofConst1, loadA, TK.isAgg, asVar, unA, builtinA, lenOpA, lenA, ileb_cast, ileb_eq, ieqb_dec, indexAddrA, inB_dec, evPairs, storeA, AV.cellsOf, pairsOf, xI_nil, binBool, gcE, evOpt, xI_block, xI_loopH, xI_condM, xI_exitM, xI_skip, xI_blk, exitA, ty2, ty3, ty4, ty22, eK43_0_0]
    simp only [R43_0_0, b43, Try.f43, Option.getD, fstC, sndC, bodyC, thnC, elsC]
    simp [xI_seq, xI_region, xI_ret, regA, regOps, runOps, opStep, wantedA, opA, evo, evos, calleeA, lk, nif_eq, putE, paramsE, valS, val2, keepE, restrict, finA, resA, binA, binInt, ofConst, ofConst1, loadA, TK.isAgg, asVar, unA, builtinA, lenOpA, lenA, ileb_cast, ileb_eq, ieqb_dec, indexAddrA, inB_dec, evPairs, storeA, AV.cellsOf, pairsOf, xI_nil, binBool, gcE, evOpt, xI_block, xI_loopH, xI_condM, xI_exitM, xI_skip, xI_blk, exitA, ty2, ty3, ty4, ty22, eK43_0_0, h1]
  | cons x suf ih =>
    intro pre σ b c out hl hc hcp hr
    have hll : k = pre.length + (suf.length + 1) := by rw [hk, hl]; simp
    have hg : l[pre.length]? = some x := by simp [hl]
    have hlt : ¬ k ≤ pre.length := by omega
    have hlt2 : pre.length < k := by omega
    have hw := wrapS (n := pre.length) (by omega)
    have hw1 : wrapA .i64 ((n : Int) - k) = (n : Int) - k := wrapA_id (by omega) (by omega)
    have hw2 : wrapA .i64 ((n : Int) - k + pre.length) = (n : Int) - k + pre.length := wrapA_id (by omega) (by omega)
    cases hin : inR x 0 ((n : Int) - k + pre.length) with
    | false =>
      have hs : sampO ((n : Int) - k) (x :: suf) pre.length out = none := by simp [sampO, hin]
      refine ⟨fun o ho => (by rw [hs] at ho; cases ho), fun _ => ⟨σ, ?_⟩⟩
      rw [fi43]
      rw [xl43_0]
      simp only [B43_0, b43, Try.f43, Option.getD, fstC, sndC, bodyC, thnC, elsC]
      simp [xI_seq, xI_region, xI_ret, regA, regOps, runOps, opStep, wantedA, opA, evo, evos, calleeA, lk, nif_eq, putE, paramsE, valS, val2, keepE, restrict, finA, resA, binA, binInt, ofConst, ofConst1, loadA, TK.isAgg, asVar, unA, builtinA, lenOpA, lenA, ileb_cast, ileb_eq, ieqb_dec, indexAddrA, inB_dec, evPairs, storeA, AV.cellsOf, pairsOf, xI_nil, binBool, gcE, evOpt, xI_block, xI_loopH, xI_condM, xI_exitM, xI_skip, xI_blk, exitA, ty2, ty3, ty4, ty22, eK43_0_0, hw, hw1, hw2, hlt, hlt2, lst_read hg, c69, hin]
    | true =>
      have hcn := v92 out c hc.symm (by omega) x σ [.sl b 0 c c, .int .i64 x] (mapO_cons (hr.frz hc.symm (Nat.le_refl _)) rfl)
      generalize hE : (if x ∈ out then (n : Int) - k + pre.length else x) = e
      have hs : sampO ((n : Int) - k) (x :: suf) pre.length out = sampO ((n : Int) - k) suf (pre.length + 1) (out ++ [e]) := by
        simp only [sampO]; rw [if_pos hin, hE]
      rw [hs]
      obtain ⟨σ1, ha, hr1, hn1, hf1⟩ := append_row (x := e) ty22 ty2 hr hc.symm (by omega)
      have ih1 := ih (pre ++ [x]) σ1 (σ.n + 1) (c + 1) (out ++ [e]) (by simp [hl]) (by simp [hc]) (by simp [hcp]) hr1
      simp only [List.length_append, List.length_singleton] at ih1
      rw [show ((pre.length + 1 : Nat) : Int) = (pre.length : Int) + 1 by omega] at ih1
      by_cases hmem : x ∈ out
      · rw [if_pos hmem] at hE
        have hd : decide (x ∈ out) = true := by simp [hmem]
        rw [hd] at hcn
        rw [← hE] at ha
        rw [fi43] at ih1 ⊢
        rw [xl43_0]
        simp only [B43_0, b43, Try.f43, Option.getD, fstC, sndC, bodyC, thnC, elsC]
        simp [xI_seq, xI_region, xI_ret, regA, regOps, runOps, opStep, wantedA, opA, evo, evos, calleeA, lk, nif_eq, putE, paramsE, valS, val2, keepE, restrict, finA, resA, binA, binInt, ofConst, ofConst1, loadA, TK.isAgg, asVar, unA, builtinA, lenOpA, lenA, ileb_cast, ileb_eq, ieqb_dec, indexAddrA, inB_dec, evPairs, storeA, AV.cellsOf, pairsOf, xI_nil, binBool, gcE, evOpt, xI_block, xI_loopH, xI_condM, xI_exitM, xI_skip, xI_blk, exitA, ty2, ty3, ty4, ty22, eK43_0_0, hw, hw1, hw2, hlt, hlt2, lst_read hg, c69, hin, hcn, bs22, ha]
        simpa using ih1
      · rw [if_neg hmem] at hE
        have hd : decide (x ∈ out) = false := by simp [hmem]
        rw [hd] at hcn
        rw [← hE] at ha
        rw [fi43] at ih1 ⊢
        rw [xl43_0]
        simp only [B43_0, b43, Try.f43, Option.getD, fstC, sndC, bodyC, thnC, elsC]
        simp [xI_seq, xI_region, xI_ret, regA, regOps, runOps, opStep, wantedA, opA, evo, evos, calleeA, lk, nif_eq, putE, paramsE, valS, val2, keepE, restrict, finA, resA, binA, binInt, ofConst, ofConst1, loadA, TK.isAgg, asVar, unA, builtinA, lenOpA, lenA, ileb_cast, ileb_eq, ieqb_dec, indexAddrA, inB_dec, evPairs, storeA, AV.cellsOf, pairsOf, xI_nil, binBool, gcE, evOpt, xI_block, xI_loopH, xI_condM, xI_exitM, xI_skip, xI_blk, exitA, ty2, ty3, ty4, ty22, eK43_0_0, hw, hw1, hw2, hlt, hlt2, lst_read hg, c69, hin, hcn, bs22, ha]
        simpa using ih1

noncomputable def b42 : Code := Try.f42.body.getD .skip
noncomputable def B42_0 : Code := (bodyC (bodyC (sndC (fstC (sndC (sndC (sndC (sndC b42))))))))
noncomputable def K42_0 : List It := .lp B42_0 :: .blk 0 :: .code (sndC (sndC (sndC (sndC (sndC b42))))) :: []
theorem xl42_0 {fi : FI} {env : Env} {σ : St} : exI TT fi K42_0 env σ = exI TT fi (.code B42_0 :: K42_0) env σ := by unfold K42_0; exact xI_lp
noncomputable def R42_0_0 : List It := .code (sndC (sndC (sndC (sndC (sndC b42))))) :: []
theorem eK42_0_0 : exitA 0 K42_0 = some R42_0_0 := rfl
theorem l42 (l : List Int) (n k : Nat) (hk : k = l.length) (hkn : k ≤ n) (hn : n ≤ 12) : ∀ (suf pre : List Int) (σ : St) (b c : Nat) (s : List Int), l = pre ++ suf → s.length = c → c ≤ pre.length → Row σ b s →
    (∀ o, sampS ((n : Int) - k) suf pre.length s = some o → ∃ σ' b' c', exI TT (FI.of Try.f42 (TT.an 42)) K42_0 [(0, .int .i64 n), (1, .lst k (ints l)), (6, .int .i64 k), (7, .sl b 0 c c), (8, .int .i64 pre.length)] σ = some (.tup [.sl b' 0 c' c', .bool true], σ') ∧ Row σ' b' o ∧ c' = o.length ∧ c' ≤ 12) ∧
    (sampS ((n : Int) - k) suf pre.length s = none → ∃ σ', exI TT (FI.of Try.f42 (TT.an 42)) K42_0 [(0, .int .i64 n), (1, .lst k (ints l)), (6, .int .i64 k), (7, .sl b 0 c c), (8, .int .i64 pre.length)] σ = some (.tup [.nilS, .bool false], σ')) := by
  intro suf
  induction suf with
  | nil =>
    intro pre σ b c s hl hc hcp hr
    have hll : k = pre.length := by rw [hk, hl]; simp
    refine ⟨fun o ho => ?_, fun h => by simp [sampS] at h⟩
    obtain rfl : s = o := by simpa [sampS] using ho
    refine ⟨σ, b, c, ?_, hr, hc.symm, by omega⟩
    subst hll
    rw [fi42]
    rw [xl42_0]
    simp only [B42_0, b42, Try.f42, Option.getD, fstC, sndC, bodyC, thnC, elsC]
    simp [xI_seq, xI_region, xI_ret, regA, regOps, runOps, opStep, wantedA, opA, evo, evos, calleeA, lk, nif_eq, putE, paramsE, valS, val2, keepE, restrict, finA, resA, binA, binInt, ofConst, ofConst1, loadA, TK.isAgg, asVar, unA, builtinA, lenOpA, lenA, ileb_cast, ileb_eq, ieqb_dec, indexAddrA, inB_dec, evPairs, storeA, AV.cellsOf, pairsOf, xI_nil, binBool, gcE, evOpt, xI_block, xI_loopH, xI_condM, xI_exitM, xI_skip, xI_blk, exitA, ty2, ty4, ty22, eK42_0_0]
    simp only [R42_0_0, b42, Try.f42, Option.getD, fstC, sndC, bodyC, thnC, elsC]
    simp [xI_seq, xI_region, xI_ret, regA, regOps, runOps, opStep, wantedA, opA, evo, evos, calleeA, lk, nif_eq, putE, paramsE, valS, val2, keepE, restrict, finA, resA, binA, binInt, ofConst, ofConst1, loadA, TK.isAgg, asVar, unA, builtinA, lenOpA, lenA, ileb_cast, ileb_eq, ieqb_dec, indexAddrA, inB_dec, evPairs, storeA, AV.cellsOf, pairsOf, xI_nil, binBool, gcE, evOpt, xI_block, xI_loopH, xI_condM, xI_exitM, xI_skip, xI_blk, exitA, ty2, ty4, ty22, eK42_0_0]
  | cons x suf ih =>
    intro pre σ b c s hl hc hcp hr
    have hll : k = pre.length + (suf.length + 1) := by rw [hk, hl]; simp
    have hg : l[pre.length]? = some x := by simp [hl]
    have hlt : ¬ k ≤ pre.length := by omega
    have hlt2 : pre.length < k := by omega
    have hw := wrapS (n := pre.length) (by omega)
    have hw1 : wrapA .i64 ((n : Int) - k) = (n : Int) - k := wrapA_id (by omega) (by omega)
    have hw2 : wrapA .i64 ((n : Int) - k + pre.length) = (n : Int) - k + pre.length := wrapA_id (by omega) (by omega)
    cases hin : inR x 0 ((n : Int) - k + pre.length) with
    | false =>
      have hs : sampS ((n : Int) - k) (x :: suf) pre.length s = none := by simp [sampS, hin]
      refine ⟨fun o ho => (by rw [hs] at ho; cases ho), fun _ => ⟨σ, ?_⟩⟩
      rw [fi42]
      rw [xl42_0]
      simp only [B42_0, b42, Try.f42, Option.getD, fstC, sndC, bodyC, thnC, elsC]
      simp [xI_seq, xI_region, xI_ret, regA, regOps, runOps, opStep, wantedA, opA, evo, evos, calleeA, lk, nif_eq, putE, paramsE, valS, val2, keepE, restrict, finA, resA, binA, binInt, ofConst, ofConst1, loadA, TK.isAgg, asVar, unA, builtinA, lenOpA, lenA, ileb_cast, ileb_eq, ieqb_dec, indexAddrA, inB_dec, evPairs, storeA, AV.cellsOf, pairsOf, xI_nil, binBool, gcE, evOpt, xI_block, xI_loopH, xI_condM, xI_exitM, xI_skip, xI_blk, exitA, ty2, ty4, ty22, eK42_0_0, hw, hw1, hw2, hlt, hlt2, lst_read hg, c66, hin]
    | true =>
      have hcn := v90 s c hc.symm (by omega) x σ [.sl b 0 c c, .int .i64 x] (mapO_cons (hr.frz hc.symm (Nat.le_refl _)) rfl)
      generalize hE : (if x ∈ s then (n : Int) - k + pre.length else x) = e
      have hs : sampS ((n : Int) - k) (x :: suf) pre.length s = sampS ((n : Int) - k) suf (pre.length + 1) (put e s) := by
        simp only [sampS]; rw [if_pos hin, hE]
      rw [hs]
      obtain ⟨b1, σ1, ha, hr1, _, _⟩ := (s91 s c hc.symm (by omega) e).row (σ := σ) (args := [.sl b 0 c c, .int .i64 e]) (mapO_cons (hr.frz hc.symm (Nat.le_refl _)) rfl)
      have hpl := put_length e s
      generalize hpq : put e s = q at *
      have ih1 := ih (pre ++ [x]) σ1 b1 q.length q (by simp [hl]) rfl (by simp; omega) hr1
      simp only [List.length_append, List.length_singleton] at ih1
      rw [show ((pre.length + 1 : Nat) : Int) = (pre.length : Int) + 1 by omega] at ih1
      by_cases hmem : x ∈ s
      · rw [if_pos hmem] at hE
        have hd : decide (x ∈ s) = true := by simp [hmem]
        rw [hd] at hcn
        rw [← hE] at ha
        rw [fi42] at ih1 ⊢
        rw [xl42_0]
        simp only [B42_0, b42, Try.f42, Option.getD, fstC, sndC, bodyC, thnC, elsC]
        simp [xI_seq, xI_region, xI_ret, regA, regOps, runOps, opStep, wantedA, opA, evo, evos, calleeA, lk, nif_eq, putE, paramsE, valS, val2, keepE, restrict, finA, resA, binA, binInt, ofConst, ofConst1, loadA, TK.isAgg, asVar, unA, builtinA, lenOpA, lenA, ileb_cast, ileb_eq, ieqb_dec, indexAddrA, inB_dec, evPairs, storeA, AV.cellsOf, pairsOf, xI_nil, binBool, gcE, evOpt, xI_block, xI_loopH, xI_condM, xI_exitM, xI_skip, xI_blk, exitA, ty2, ty4, ty22, eK42_0_0, hw, hw1, hw2, hlt, hlt2, lst_read hg, c66, hin, hcn, ha]
        simpa using ih1
      · rw [if_neg hmem] at hE
        have hd : decide (x ∈ s) = false := by simp [hmem]
        rw [hd] at hcn
        rw [← hE] at ha
        rw [fi42] at ih1 ⊢
        rw [xl42_0]
        simp only [B42_0, b42, Try.f42, Option.getD, fstC, sndC, bodyC, thnC, elsC]
        simp [xI_seq, xI_region, xI_ret, regA, regOps, runOps, opStep, wantedA, opA, evo, evos, calleeA, lk, nif_eq, putE, paramsE, valS, val2, keepE, restrict, finA, resA, binA, binInt, ofConst, ofConst1, loadA, TK.isAgg, asVar, unA, builtinA, lenOpA, lenA, ileb_cast, ileb_eq, ieqb_dec, indexAddrA, inB_dec, evPairs, storeA, AV.cellsOf, pairsOf, xI_nil, binBool, gcE, evOpt, xI_block, xI_loopH, xI_condM, xI_exitM, xI_skip, xI_blk, exitA, ty2, ty4, ty22, eK42_0_0, hw, hw1, hw2, hlt, hlt2, lst_read hg, c66, hin, hcn, ha]
        simpa using ih1

theorem o43 (n : Int) (l : List Int) (hs : l.length < 2000000) : FnO TT 43 [.int .i64 n, .lst l.length (ints l)] (sampR n l) := by
  have hL : ∀ σ, callI TT 75 [.lst l.length (ints l)] σ = some (.int .i64 l.length, σ) := fun σ => v75 l l.length σ _ rfl
  cases h1 : inR n 1 12 with
  | false =>
    have hr : sampR n l = none := by simp [sampR, h1]
    rw [hr]
    refine FnO.mkN fn43 rfl md43 ⟨⟨[], 0⟩, ?_⟩
    rw [fi43]
    simp [xI_seq, xI_region, xI_ret, regA, regOps, runOps, opStep, wantedA, opA, evo, evos, calleeA, lk, nif_eq, putE, paramsE, valS, val2, keepE, restrict, finA, resA, binA, binInt, ofConst, ofConst1, loadA, TK.isAgg, asVar, unA, builtinA, lenOpA, lenA, ileb_cast, ileb_eq, ieqb_dec, indexAddrA, inB_dec, evPairs, storeA, AV.cellsOf, pairsOf, xI_nil, binBool, gcE, evOpt, xI_block, xI_loopH, xI_condM, xI_exitM, xI_skip, xI_blk, exitA, ty2, ty3, ty4, ty22, eK43_0_0, c67, hL, h1]
  | true =>
    by_cases h2 : (l.length : Int) ≤ n
    · have k1 := inR_iff.1 h1
      obtain ⟨m, rfl⟩ : ∃ m : Nat, n = m := ⟨n.toNat, by omega⟩
      have hr : sampR m l = sampS ((m : Int) - l.length) l 0 [] := by simp [sampR, h1, h2]
      have hb := bn22 ⟨[], 0⟩
      have h2' : l.length ≤ m := by omega

      obtain ⟨j1, j2⟩ := l43 l m l.length rfl (by omega) (by omega) l [] ((⟨[], 0⟩ : St).push ⟨ints [], 1, false⟩) 0 0 [] rfl rfl rfl Row.push
      have hse := samp_eq ((m : Int) - l.length) l 0 [] (by simp) (by simp)
      simp only [List.foldl_nil] at hse
      rw [← hr] at hse
      cases hx : sampO ((m : Int) - l.length) l 0 [] with
      | none =>
        rw [hx] at hse
        rw [← hse]
        obtain ⟨σ', h3⟩ := j2 hx
        refine FnO.mkN fn43 rfl md43 ⟨σ', ?_⟩
        rw [fi43] at h3 ⊢
        simp [xI_seq, xI_region, xI_ret, regA, regOps, runOps, opStep, wantedA, opA, evo, evos, calleeA, lk, nif_eq, putE, paramsE, valS, val2, keepE, restrict, finA, resA, binA, binInt, ofConst, ofConst1, loadA, TK.isAgg, asVar, unA, builtinA, lenOpA, lenA, ileb_cast, ileb_eq, ieqb_dec, indexAddrA, inB_dec, evPairs, storeA, AV.cellsOf, pairsOf, xI_nil, binBool, gcE, evOpt, xI_block, xI_loopH, xI_condM, xI_exitM, xI_skip, xI_blk, exitA, ty2, ty3, ty4, ty22, eK43_0_0, c67, hL, h1, h2, h2', hb]
        exact h3
      | some o =>
        rw [hx] at hse
        rw [← hse]
        obtain ⟨σ', b', c', h3, ⟨oo, h4, _⟩, h5⟩ := j1 o hx
        refine FnO.mkS fn43 rfl md43 ⟨σ', b', oo, ?_, h4⟩
        rw [isrt_length, ← h5]
        rw [fi43] at h3 ⊢
        simp [xI_seq, xI_region, xI_ret, regA, regOps, runOps, opStep, wantedA, opA, evo, evos, calleeA, lk, nif_eq, putE, paramsE, valS, val2, keepE, restrict, finA, resA, binA, binInt, ofConst, ofConst1, loadA, TK.isAgg, asVar, unA, builtinA, lenOpA, lenA, ileb_cast, ileb_eq, ieqb_dec, indexAddrA, inB_dec, evPairs, storeA, AV.cellsOf, pairsOf, xI_nil, binBool, gcE, evOpt, xI_block, xI_loopH, xI_condM, xI_exitM, xI_skip, xI_blk, exitA, ty2, ty3, ty4, ty22, eK43_0_0, c67, hL, h1, h2, h2', hb]
        exact h3
    · have hr : sampR n l = none := by simp [sampR, h2]
      rw [hr]
      refine FnO.mkN fn43 rfl md43 ⟨⟨[], 0⟩, ?_⟩
      rw [fi43]
      simp [xI_seq, xI_region, xI_ret, regA, regOps, runOps, opStep, wantedA, opA, evo, evos, calleeA, lk, nif_eq, putE, paramsE, valS, val2, keepE, restrict, finA, resA, binA, binInt, ofConst, ofConst1, loadA, TK.isAgg, asVar, unA, builtinA, lenOpA, lenA, ileb_cast, ileb_eq, ieqb_dec, indexAddrA, inB_dec, evPairs, storeA, AV.cellsOf, pairsOf, xI_nil, binBool, gcE, evOpt, xI_block, xI_loopH, xI_condM, xI_exitM, xI_skip, xI_blk, exitA, ty2, ty3, ty4, ty22, eK43_0_0, c67, hL, h1, h2]

theorem o42 (n : Int) (l : List Int) (hs : l.length < 2000000) : FnO TT 42 [.int .i64 n, .lst l.length (ints l)] (sampR n l) := by
  cases h1 : inR n 1 12 with
  | false =>
    have hr : sampR n l = none := by simp [sampR, h1]
    rw [hr]
    refine FnO.mkN fn42 rfl md42 ⟨⟨[], 0⟩, ?_⟩
    rw [fi42]
    simp [xI_seq, xI_region, xI_ret, regA, regOps, runOps, opStep, wantedA, opA, evo, evos, calleeA, lk, nif_eq, putE, paramsE, valS, val2, keepE, restrict, finA, resA, binA, binInt, ofConst, ofConst1, loadA, TK.isAgg, asVar, unA, builtinA, lenOpA, lenA, ileb_cast, ileb_eq, ieqb_dec, indexAddrA, inB_dec, evPairs, storeA, AV.cellsOf, pairsOf, xI_nil, binBool, gcE, evOpt, xI_block, xI_loopH, xI_condM, xI_exitM, xI_skip, xI_blk, exitA, ty2, ty4, ty22, eK42_0_0, c64, h1]
  | true =>
    by_cases h2 : (l.length : Int) ≤ n
    · have k1 := inR_iff.1 h1
      obtain ⟨m, rfl⟩ : ∃ m : Nat, n = m := ⟨n.toNat, by omega⟩
      have hr : sampR m l = sampS ((m : Int) - l.length) l 0 [] := by simp [sampR, h1, h2]
      have hb := bn22 ⟨[], 0⟩
      have h2' : l.length ≤ m := by omega

      obtain ⟨j1, j2⟩ := l42 l m l.length rfl (by omega) (by omega) l [] ((⟨[], 0⟩ : St).push ⟨ints [], 1, false⟩) 0 0 [] rfl rfl (by simp) Row.push
      cases hx : sampS ((m : Int) - l.length) l 0 [] with
      | none =>
        rw [hr, hx]
        obtain ⟨σ', h3⟩ := j2 hx
        refine FnO.mkN fn42 rfl md42 ⟨σ', ?_⟩
        rw [fi42] at h3 ⊢
        simp [xI_seq, xI_region, xI_ret, regA, regOps, runOps, opStep, wantedA, opA, evo, evos, calleeA, lk, nif_eq, putE, paramsE, valS, val2, keepE, restrict, finA, resA, binA, binInt, ofConst, ofConst1, loadA, TK.isAgg, asVar, unA, builtinA, lenOpA, lenA, ileb_cast, ileb_eq, ieqb_dec, indexAddrA, inB_dec, evPairs, storeA, AV.cellsOf, pairsOf, xI_nil, binBool, gcE, evOpt, xI_block, xI_loopH, xI_condM, xI_exitM, xI_skip, xI_blk, exitA, ty2, ty4, ty22, eK42_0_0, c64, h1, h2, h2', hb]
        exact h3
      | some o =>
        rw [hr, hx]
        obtain ⟨σ', b', c', h3, ⟨oo, h4, _⟩, h5, _⟩ := j1 o hx
        refine FnO.mkS fn42 rfl md42 ⟨σ', b', oo, ?_, h4⟩
        rw [← h5]
        rw [fi42] at h3 ⊢
        simp [xI_seq, xI_region, xI_ret, regA, regOps, runOps, opStep, wantedA, opA, evo, evos, calleeA, lk, nif_eq, putE, paramsE, valS, val2, keepE, restrict, finA, resA, binA, binInt, ofConst, ofConst1, loadA, TK.isAgg, asVar, unA, builtinA, lenOpA, lenA, ileb_cast, ileb_eq, ieqb_dec, indexAddrA, inB_dec, evPairs, storeA, AV.cellsOf, pairsOf, xI_nil, binBool, gcE, evOpt, xI_block, xI_loopH, xI_condM, xI_exitM, xI_skip, xI_blk, exitA, ty2, ty4, ty22, eK42_0_0, c64, h1, h2, h2', hb]
        exact h3
    · have hr : sampR n l = none := by simp [sampR, h2]
      rw [hr]
      refine FnO.mkN fn42 rfl md42 ⟨⟨[], 0⟩, ?_⟩
      rw [fi42]
      simp [xI_seq, xI_region, xI_ret, regA, regOps, runOps, opStep, wantedA, opA, evo, evos, calleeA, lk, nif_eq, putE, paramsE, valS, val2, keepE, restrict, finA, resA, binA, binInt, ofConst, ofConst1, loadA, TK.isAgg, asVar, unA, builtinA, lenOpA, lenA, ileb_cast, ileb_eq, ieqb_dec, indexAddrA, inB_dec, evPairs, storeA, AV.cellsOf, pairsOf, xI_nil, binBool, gcE, evOpt, xI_block, xI_loopH, xI_condM, xI_exitM, xI_skip, xI_blk, exitA, ty2, ty4, ty22, eK42_0_0, c64, h1, h2]

theorem sampS_length (base : Int) : ∀ (r : List Int) (i : Nat) (s o : List Int), sampS base r i s = some o → o.length ≤ s.length + r.length
  | [], _, s, o, h => by simp [sampS] at h; simp [h]
  | c :: r, i, s, o, h => by
    simp only [sampS] at h
    split at h
    · have := sampS_length base r _ _ _ h
      have := put_length (if c ∈ s then base + i else c) s
      simp only [List.length_cons]; omega
    · cases h
theorem sampR_length {n : Int} {l out : List Int} (h : sampR n l = some out) : out.length ≤ 12 := by
  unfold sampR at h
  split at h
  · rename_i hc
    have h1 := inR_iff.1 hc.1
    have := sampS_length _ _ _ _ _ h
    simp only [List.length_nil] at this; omega
  · cases h

end Go.Proofs.Ytaniaeefijgaiaa
