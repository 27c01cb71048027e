/- Contracts of the shuffles. Nothing is claimed here; no condition. -/
import Derived.Test.YtaniaeefijgaiaaCb
namespace Go.Proofs.Ytaniaeefijgaiaa
open Go Go.Abs
set_option linter.unusedSimpArgs false
set_option linter.unusedVariables false
/-- What choices lead to; none if one is out of bounds. -/
def shuf (d : Int) (n : Nat) : List Int → Nat → List Int → Option (List Int)
  | [], _, out => some out
  | c :: r, k, out => if inR c 0 ((n : Int) - 1 - k - d) = true then shuf d n r (k + 1) (swp out (n - 1 - k) c.toNat) else none
theorem inR_iff {n lo hi : Int} : inR n lo hi = true ↔ lo ≤ n ∧ n ≤ hi := by simp [inR]
theorem inR_not {n lo hi : Int} (h : ¬ (lo ≤ n ∧ n ≤ hi)) : inR n lo hi = false := by simp only [inR]; simp; omega

noncomputable def b71 : Code := Try.f71.body.getD .skip
noncomputable def B71_0 : Code := (bodyC (bodyC (sndC (fstC (sndC (sndC (sndC (sndC b71))))))))
noncomputable def K71_0 : List It := .lp B71_0 :: .blk 0 :: .code (sndC (sndC (sndC (sndC (sndC b71))))) :: []
theorem xl71_0 {fi : FI} {env : Env} {σ : St} : exI TT fi K71_0 env σ = exI TT fi (.code B71_0 :: K71_0) env σ := by unfold K71_0; exact xI_lp
noncomputable def R71_0_0 : List It := .code (sndC (sndC (sndC (sndC (sndC b71))))) :: []
theorem eK71_0_0 : exitA 0 K71_0 = some R71_0_0 := rfl
theorem l71 (cs : List Int) (d : Nat) (n : Nat) (hn : n = cs.length + 1) (hs : n < 3000000) (hd : d ≤ 1) : ∀ (suf pre : List Int) (σ : St) (b : Nat) (out : List Int), cs = pre ++ suf → out.length = n → Row σ b out →
    (∀ out', shuf d n suf pre.length out = some out' → ∃ σ', exI TT (FI.of Try.f71 (TT.an 71)) K71_0 [(1, .int .i64 d), (6, .int .i64 n), (7, .sl b 0 n n), (19, .lst cs.length (ints cs)), (20, .int .i64 cs.length), (21, .int .i64 pre.length)] σ = some (.tup [.sl b 0 n n, .bool true], σ') ∧ Row σ' b out' ∧ out'.length = n) ∧
    (shuf d n suf pre.length out = none → ∃ σ', exI TT (FI.of Try.f71 (TT.an 71)) K71_0 [(1, .int .i64 d), (6, .int .i64 n), (7, .sl b 0 n n), (19, .lst cs.length (ints cs)), (20, .int .i64 cs.length), (21, .int .i64 pre.length)] σ = some (.tup [.nilS, .bool false], σ')) := by
  intro suf
  induction suf with
  | nil =>
    intro pre σ b out hc ho hr
    have hc : pre = cs := by simpa using hc.symm
    subst hc
    refine ⟨fun out' h => ?_, fun h => by simp [shuf] at h⟩
    obtain rfl : out = out' := by simpa [shuf] using h
    refine ⟨σ, ?_, hr, ho⟩
    rw [fi71]
    rw [xl71_0]
    simp only [B71_0, b71, Try.f71, Option.getD, fstC, sndC, bodyC, thnC, elsC]
    simp [xI_seq, xI_region, xI_ret, regA, regOps, runOps, opStep, wantedA, opA, evo, evos, calleeA, lk, nif_eq, putE, paramsE, valS, val2, keepE, restrict, finA, resA, binA, binInt, ofConst, ofConst1, loadA, TK.isAgg, asVar, unA, builtinA, lenOpA, lenA, ileb_cast, ileb_eq, ieqb_dec, indexAddrA, inB_dec, evPairs, storeA, AV.cellsOf, pairsOf, xI_nil, binBool, gcE, evOpt, xI_block, xI_loopH, xI_condM, xI_exitM, xI_skip, xI_blk, exitA, ty2, ty3, ty4, ty22, eK71_0_0]
    simp only [R71_0_0, b71, Try.f71, Option.getD, fstC, sndC, bodyC, thnC, elsC]
    simp [xI_seq, xI_region, xI_ret, regA, regOps, runOps, opStep, wantedA, opA, evo, evos, calleeA, lk, nif_eq, putE, paramsE, valS, val2, keepE, restrict, finA, resA, binA, binInt, ofConst, ofConst1, loadA, TK.isAgg, asVar, unA, builtinA, lenOpA, lenA, ileb_cast, ileb_eq, ieqb_dec, indexAddrA, inB_dec, evPairs, storeA, AV.cellsOf, pairsOf, xI_nil, binBool, gcE, evOpt, xI_block, xI_loopH, xI_condM, xI_exitM, xI_skip, xI_blk, exitA, ty2, ty3, ty4, ty22, eK71_0_0]
  | cons c suf ih =>
    intro pre σ b out hc ho hr
    have hl : cs.length = pre.length + (suf.length + 1) := by rw [hc]; simp
    have hg : cs[pre.length]? = some c := by simp [hc]
    have hlt : ¬ cs.length ≤ pre.length := by omega
    have hlt2 : pre.length < cs.length := by omega
    have hw := wrapS (n := pre.length) (by omega)
    have hw1 : wrapA .i64 ((n : Int) - 1) = (n : Int) - 1 := wrapA_id (by omega) (by omega)
    have hw2 : wrapA .i64 ((n : Int) - 1 - pre.length) = (n : Int) - 1 - pre.length := wrapA_id (by omega) (by omega)
    have hw3 : wrapA .i64 ((n : Int) - 1 - pre.length - d) = (n : Int) - 1 - pre.length - d := wrapA_id (by omega) (by omega)
    by_cases hin : 0 ≤ c ∧ c ≤ (n : Int) - 1 - pre.length - d
    · have hinR : inR c 0 ((n : Int) - 1 - pre.length - d) = true := inR_iff.2 hin
      obtain ⟨cc, rfl⟩ : ∃ cc : Nat, c = cc := ⟨c.toNat, by omega⟩
      obtain ⟨i, hi⟩ : ∃ i : Nat, i = n - 1 - pre.length := ⟨_, rfl⟩
      have hi2 : (n : Int) - 1 - pre.length = i := by omega
      obtain ⟨σ1, s1, r1, n1, o1⟩ := store_row (i := i) (x := out.getD cc 0) hr (by omega)
      obtain ⟨σ2, s2, r2, n2, o2⟩ := store_row (i := cc) (x := out.getD i 0) r1 (by simp; omega)
      have g1 := hr.read (getD_get (l := out) (i := i) (by omega))
      have g2 := hr.read (getD_get (l := out) (i := cc) (by omega))
      have hin1 : i < n := by omega
      have hin2 : cc < n := by omega
      have hsh : shuf d n ((cc : Int) :: suf) pre.length out = shuf d n suf (pre.length + 1) (swp out i cc) := by
        simp only [shuf]; rw [if_pos hinR, ← hi]; simp
      have ih1 := ih (pre ++ [(cc : Int)]) σ2 b (swp out i cc) (by simp [hc]) (by simp [swp_length, ho]) r2
      rw [hi2] at hw2 hw3 hinR
      simp only [List.getD_eq_getElem?_getD] at s1 s2 g1 g2
      rw [hsh]
      simp only [List.length_append, List.length_singleton] at ih1
      rw [fi71] at ih1 ⊢
      rw [xl71_0]
      simp only [B71_0, b71, Try.f71, Option.getD, fstC, sndC, bodyC, thnC, elsC]
      simp [xI_seq, xI_region, xI_ret, regA, regOps, runOps, opStep, wantedA, opA, evo, evos, calleeA, lk, nif_eq, putE, paramsE, valS, val2, keepE, restrict, finA, resA, binA, binInt, ofConst, ofConst1, loadA, TK.isAgg, asVar, unA, builtinA, lenOpA, lenA, ileb_cast, ileb_eq, ieqb_dec, indexAddrA, inB_dec, evPairs, storeA, AV.cellsOf, pairsOf, xI_nil, binBool, gcE, evOpt, xI_block, xI_loopH, xI_condM, xI_exitM, xI_skip, xI_blk, exitA, ty2, ty3, ty4, ty22, eK71_0_0, hw, hw1, hw2, hw3, hi2, hlt, hlt2, lst_read hg, hin1, hin2, c69, hinR, g1, g2, s1, s2, runTr, pairsOk, pairOk, sameVal, AV.eqv, lastOf, lstAt]
      simpa using ih1
    · have hinR : inR c 0 ((n : Int) - 1 - pre.length - d) = false := inR_not hin
      have hsh : shuf d n (c :: suf) pre.length out = none := by
        simp only [shuf]; rw [if_neg (by rw [hinR]; simp)]
      refine ⟨fun out' h => (by rw [hsh] at h; cases h), fun _ => ⟨σ, ?_⟩⟩
      rw [fi71]
      rw [xl71_0]
      simp only [B71_0, b71, Try.f71, Option.getD, fstC, sndC, bodyC, thnC, elsC]
      simp [xI_seq, xI_region, xI_ret, regA, regOps, runOps, opStep, wantedA, opA, evo, evos, calleeA, lk, nif_eq, putE, paramsE, valS, val2, keepE, restrict, finA, resA, binA, binInt, ofConst, ofConst1, loadA, TK.isAgg, asVar, unA, builtinA, lenOpA, lenA, ileb_cast, ileb_eq, ieqb_dec, indexAddrA, inB_dec, evPairs, storeA, AV.cellsOf, pairsOf, xI_nil, binBool, gcE, evOpt, xI_block, xI_loopH, xI_condM, xI_exitM, xI_skip, xI_blk, exitA, ty2, ty3, ty4, ty22, eK71_0_0, hw, hw1, hw2, hw3, hlt, hlt2, lst_read hg, c69, hinR]
/-- The order that choices lead to. -/
def shufR (d : Nat) (cs : List Int) : Option (List Int) := if cs.length + 1 ≤ 12 then shuf d (cs.length + 1) cs 0 (iotaF 0 (cs.length + 1)) else none

theorem o71 (cs : List Int) (d : Nat) (hs : cs.length < 2000000) (hd : d ≤ 1) : FnO TT 71 [.lst cs.length (ints cs), .int .i64 d] (shufR d cs) := by
  have hL := v75 cs cs.length
  obtain ⟨n, hnn⟩ : ∃ n, n = cs.length + 1 := ⟨_, rfl⟩
  have hw : wrapA .i64 ((cs.length : Int) + 1) = n := by rw [wrapS (by omega)]; omega
  have hLc : ∀ σ, callI TT 75 [.lst cs.length (ints cs)] σ = some (.int .i64 cs.length, σ) := fun σ => hL σ _ rfl
  by_cases hn : n ≤ 12
  · have hin : inR (n : Int) 1 12 = true := inR_iff.2 (by omega)
    obtain ⟨o, hA⟩ := s68 n (by omega) ⟨[], 0⟩ [.int .i64 n] rfl
    rw [iotaF_length] at hA
    obtain ⟨h1, h2⟩ := l71 cs d n hnn (by omega) hd cs [] ((⟨[], 0⟩ : St).push ⟨ints (iotaF 0 n), 1, o⟩) 0 _ rfl (iotaF_length _ _) Row.push
    have hsr : shufR d cs = shuf d n cs 0 (iotaF 0 n) := by unfold shufR; rw [← hnn, if_pos hn]
    cases hx : shufR d cs with
    | none =>
      obtain ⟨σ', h3⟩ := h2 (by rw [← hx, hsr]; rfl)
      refine FnO.mkN fn71 rfl md71 ⟨σ', ?_⟩
      rw [← h3]
      rw [fi71]
      simp [xI_seq, xI_region, xI_ret, regA, regOps, runOps, opStep, wantedA, opA, evo, evos, calleeA, lk, nif_eq, putE, paramsE, valS, val2, keepE, restrict, finA, resA, binA, binInt, ofConst, ofConst1, loadA, TK.isAgg, asVar, unA, builtinA, lenOpA, lenA, ileb_cast, ileb_eq, ieqb_dec, indexAddrA, inB_dec, evPairs, storeA, AV.cellsOf, pairsOf, xI_nil, binBool, gcE, evOpt, xI_block, xI_loopH, xI_condM, xI_exitM, xI_skip, xI_blk, exitA, ty2, ty3, ty4, ty22, eK71_0_0, hLc, hw, c67, hin, hA]
      rfl
    | some out =>
      obtain ⟨σ', h3, ⟨oo, h4, _⟩, h5⟩ := h1 out (by rw [← hx, hsr]; rfl)
      refine FnO.mkS fn71 rfl md71 ⟨σ', 0, oo, ?_, h4⟩
      rw [h5, ← h3]
      rw [fi71]
      simp [xI_seq, xI_region, xI_ret, regA, regOps, runOps, opStep, wantedA, opA, evo, evos, calleeA, lk, nif_eq, putE, paramsE, valS, val2, keepE, restrict, finA, resA, binA, binInt, ofConst, ofConst1, loadA, TK.isAgg, asVar, unA, builtinA, lenOpA, lenA, ileb_cast, ileb_eq, ieqb_dec, indexAddrA, inB_dec, evPairs, storeA, AV.cellsOf, pairsOf, xI_nil, binBool, gcE, evOpt, xI_block, xI_loopH, xI_condM, xI_exitM, xI_skip, xI_blk, exitA, ty2, ty3, ty4, ty22, eK71_0_0, hLc, hw, c67, hin, hA]
      rfl
  · have hin : inR (n : Int) 1 12 = false := inR_not (by omega)
    have hsr : shufR d cs = none := by unfold shufR; rw [← hnn, if_neg hn]
    rw [hsr]
    refine FnO.mkN fn71 rfl md71 ⟨⟨[], 0⟩, ?_⟩
    rw [fi71]
    simp [xI_seq, xI_region, xI_ret, regA, regOps, runOps, opStep, wantedA, opA, evo, evos, calleeA, lk, nif_eq, putE, paramsE, valS, val2, keepE, restrict, finA, resA, binA, binInt, ofConst, ofConst1, loadA, TK.isAgg, asVar, unA, builtinA, lenOpA, lenA, ileb_cast, ileb_eq, ieqb_dec, indexAddrA, inB_dec, evPairs, storeA, AV.cellsOf, pairsOf, xI_nil, binBool, gcE, evOpt, xI_block, xI_loopH, xI_condM, xI_exitM, xI_skip, xI_blk, exitA, ty2, ty3, ty4, ty22, eK71_0_0, hLc, hw, c67, hin]

noncomputable def b70 : Code := Try.f70.body.getD .skip
noncomputable def B70_0 : Code := (bodyC (bodyC (sndC (fstC (sndC (sndC (sndC (sndC b70))))))))
noncomputable def K70_0 : List It := .lp B70_0 :: .blk 0 :: .code (sndC (sndC (sndC (sndC (sndC b70))))) :: []
theorem xl70_0 {fi : FI} {env : Env} {σ : St} : exI TT fi K70_0 env σ = exI TT fi (.code B70_0 :: K70_0) env σ := by unfold K70_0; exact xI_lp
noncomputable def R70_0_0 : List It := .code (sndC (sndC (sndC (sndC (sndC b70))))) :: []
theorem eK70_0_0 : exitA 0 K70_0 = some R70_0_0 := rfl
theorem l70 (cs : List Int) (d : Nat) (n : Nat) (hn : n = cs.length + 1) (hs : n < 3000000) (hd : d ≤ 1) : ∀ (suf pre : List Int) (i : Nat) (σ : St) (b : Nat) (out : List Int), cs = pre ++ suf → i = suf.length → out.length = n → Row σ b out →
    (∀ out', shuf d n suf pre.length out = some out' → ∃ σ', exI TT (FI.of Try.f70 (TT.an 70)) K70_0 [(0, .lst cs.length (ints cs)), (1, .int .i64 d), (6, .int .i64 n), (7, .sl b 0 n n), (8, .int .i64 i)] σ = some (.tup [.sl b 0 n n, .bool true], σ') ∧ Row σ' b out' ∧ out'.length = n) ∧
    (shuf d n suf pre.length out = none → ∃ σ', exI TT (FI.of Try.f70 (TT.an 70)) K70_0 [(0, .lst cs.length (ints cs)), (1, .int .i64 d), (6, .int .i64 n), (7, .sl b 0 n n), (8, .int .i64 i)] σ = some (.tup [.nilS, .bool false], σ')) := by
  intro suf
  induction suf with
  | nil =>
    intro pre i σ b out hc hi ho hr
    obtain rfl : i = 0 := by simpa using hi
    refine ⟨fun out' h => ?_, fun h => by simp [shuf] at h⟩
    obtain rfl : out = out' := by simpa [shuf] using h
    refine ⟨σ, ?_, hr, ho⟩
    rw [fi70]
    rw [xl70_0]
    simp only [B70_0, b70, Try.f70, Option.getD, fstC, sndC, bodyC, thnC, elsC]
    simp [xI_seq, xI_region, xI_ret, regA, regOps, runOps, opStep, wantedA, opA, evo, evos, calleeA, lk, nif_eq, putE, paramsE, valS, val2, keepE, restrict, finA, resA, binA, binInt, ofConst, ofConst1, loadA, TK.isAgg, asVar, unA, builtinA, lenOpA, lenA, ileb_cast, ileb_eq, ieqb_dec, indexAddrA, inB_dec, evPairs, storeA, AV.cellsOf, pairsOf, xI_nil, binBool, gcE, evOpt, xI_block, xI_loopH, xI_condM, xI_exitM, xI_skip, xI_blk, exitA, ty2, ty4, ty22, eK70_0_0]
    simp only [R70_0_0, b70, Try.f70, Option.getD, fstC, sndC, bodyC, thnC, elsC]
    simp [xI_seq, xI_region, xI_ret, regA, regOps, runOps, opStep, wantedA, opA, evo, evos, calleeA, lk, nif_eq, putE, paramsE, valS, val2, keepE, restrict, finA, resA, binA, binInt, ofConst, ofConst1, loadA, TK.isAgg, asVar, unA, builtinA, lenOpA, lenA, ileb_cast, ileb_eq, ieqb_dec, indexAddrA, inB_dec, evPairs, storeA, AV.cellsOf, pairsOf, xI_nil, binBool, gcE, evOpt, xI_block, xI_loopH, xI_condM, xI_exitM, xI_skip, xI_blk, exitA, ty2, ty4, ty22, eK70_0_0]
  | cons c suf ih =>
    intro pre i σ b out hc hi ho hr
    have hl : cs.length = pre.length + (suf.length + 1) := by rw [hc]; simp
    have hi : i = suf.length + 1 := by simpa using hi
    have hg : cs[pre.length]? = some c := by simp [hc]
    have hlt2 : pre.length < cs.length := by omega
    have hw1 : wrapA .i64 ((n : Int) - 1) = (n : Int) - 1 := wrapA_id (by omega) (by omega)
    have hw2 : wrapA .i64 ((n : Int) - 1 - i) = (pre.length : Int) := by rw [wrapA_id (by omega) (by omega)]; omega
    have hw3 : wrapA .i64 ((i : Int) - d) = (i : Int) - d := wrapA_id (by omega) (by omega)
    have hw4 : wrapA .i64 ((i : Int) - 1) = (suf.length : Int) := by rw [wrapA_id (by omega) (by omega)]; omega
    have hi0 : ¬ i = 0 := by omega
    have hi0' : 0 < i := by omega
    have e1 : (n : Int) - 1 - pre.length - d = (i : Int) - d := by omega
    by_cases hin : 0 ≤ c ∧ c ≤ (i : Int) - d
    · have hinR : inR c 0 ((i : Int) - d) = true := inR_iff.2 hin
      obtain ⟨cc, rfl⟩ : ∃ cc : Nat, c = cc := ⟨c.toNat, by omega⟩
      obtain ⟨σ2, s2, r2, n2, o2⟩ := m96 σ b n i cc out ho.symm (by omega) (by omega) hr
      have hsh : shuf d n ((cc : Int) :: suf) pre.length out = shuf d n suf (pre.length + 1) (swp out i cc) := by
        simp only [shuf]; rw [e1, if_pos hinR, show n - 1 - pre.length = i by omega]; simp
      have ih1 := ih (pre ++ [(cc : Int)]) suf.length σ2 b (swp out i cc) (by simp [hc]) rfl (by simp [swp_length, ho]) r2
      rw [hsh]
      simp only [List.length_append, List.length_singleton] at ih1
      rw [fi70] at ih1 ⊢
      rw [xl70_0]
      simp only [B70_0, b70, Try.f70, Option.getD, fstC, sndC, bodyC, thnC, elsC]
      simp [xI_seq, xI_region, xI_ret, regA, regOps, runOps, opStep, wantedA, opA, evo, evos, calleeA, lk, nif_eq, putE, paramsE, valS, val2, keepE, restrict, finA, resA, binA, binInt, ofConst, ofConst1, loadA, TK.isAgg, asVar, unA, builtinA, lenOpA, lenA, ileb_cast, ileb_eq, ieqb_dec, indexAddrA, inB_dec, evPairs, storeA, AV.cellsOf, pairsOf, xI_nil, binBool, gcE, evOpt, xI_block, xI_loopH, xI_condM, xI_exitM, xI_skip, xI_blk, exitA, ty2, ty4, ty22, eK70_0_0, hw1, hw2, hw3, hw4, hi0, hi0', hlt2, lst_read hg, c66, hinR, s2]
      simpa using ih1
    · have hinR : inR c 0 ((i : Int) - d) = false := inR_not hin
      have hsh : shuf d n (c :: suf) pre.length out = none := by
        simp only [shuf]; rw [e1, if_neg (by rw [hinR]; simp)]
      refine ⟨fun out' h => (by rw [hsh] at h; cases h), fun _ => ⟨σ, ?_⟩⟩
      rw [fi70]
      rw [xl70_0]
      simp only [B70_0, b70, Try.f70, Option.getD, fstC, sndC, bodyC, thnC, elsC]
      simp [xI_seq, xI_region, xI_ret, regA, regOps, runOps, opStep, wantedA, opA, evo, evos, calleeA, lk, nif_eq, putE, paramsE, valS, val2, keepE, restrict, finA, resA, binA, binInt, ofConst, ofConst1, loadA, TK.isAgg, asVar, unA, builtinA, lenOpA, lenA, ileb_cast, ileb_eq, ieqb_dec, indexAddrA, inB_dec, evPairs, storeA, AV.cellsOf, pairsOf, xI_nil, binBool, gcE, evOpt, xI_block, xI_loopH, xI_condM, xI_exitM, xI_skip, xI_blk, exitA, ty2, ty4, ty22, eK70_0_0, hw1, hw2, hw3, hi0, hi0', hlt2, lst_read hg, c66, hinR]

theorem o70 (cs : List Int) (d : Nat) (hs : cs.length < 2000000) (hd : d ≤ 1) : FnO TT 70 [.lst cs.length (ints cs), .int .i64 d] (shufR d cs) := by
  obtain ⟨n, hnn⟩ : ∃ n, n = cs.length + 1 := ⟨_, rfl⟩
  have hw : wrapA .i64 ((cs.length : Int) + 1) = n := by rw [wrapS (by omega)]; omega
  have hw1 : wrapA .i64 ((n : Int) - 1) = (cs.length : Int) := by rw [wrapA_id (by omega) (by omega)]; omega
  by_cases hn : n ≤ 12
  · have hin : (n : Int) ≤ 12 := by omega
    obtain ⟨o, hA⟩ := s65 n (by omega) ⟨[], 0⟩ [.int .i64 n] rfl
    rw [iotaF_length] at hA
    obtain ⟨h1, h2⟩ := l70 cs d n hnn (by omega) hd cs [] cs.length ((⟨[], 0⟩ : St).push ⟨ints (iotaF 0 n), 1, o⟩) 0 _ rfl rfl (iotaF_length _ _) Row.push
    have hsr : shufR d cs = shuf d n cs 0 (iotaF 0 n) := by unfold shufR; rw [← hnn, if_pos hn]
    cases hx : shufR d cs with
    | none =>
      obtain ⟨σ', h3⟩ := h2 (by rw [← hx, hsr]; rfl)
      refine FnO.mkN fn70 rfl md70 ⟨σ', ?_⟩
      rw [← h3]
      rw [fi70]
      simp [xI_seq, xI_region, xI_ret, regA, regOps, runOps, opStep, wantedA, opA, evo, evos, calleeA, lk, nif_eq, putE, paramsE, valS, val2, keepE, restrict, finA, resA, binA, binInt, ofConst, ofConst1, loadA, TK.isAgg, asVar, unA, builtinA, lenOpA, lenA, ileb_cast, ileb_eq, ieqb_dec, indexAddrA, inB_dec, evPairs, storeA, AV.cellsOf, pairsOf, xI_nil, binBool, gcE, evOpt, xI_block, xI_loopH, xI_condM, xI_exitM, xI_skip, xI_blk, exitA, ty2, ty4, ty22, eK70_0_0, hw, hw1, hin, hA]
      rfl
    | some out =>
      obtain ⟨σ', h3, ⟨oo, h4, _⟩, h5⟩ := h1 out (by rw [← hx, hsr]; rfl)
      refine FnO.mkS fn70 rfl md70 ⟨σ', 0, oo, ?_, h4⟩
      rw [h5, ← h3]
      rw [fi70]
      simp [xI_seq, xI_region, xI_ret, regA, regOps, runOps, opStep, wantedA, opA, evo, evos, calleeA, lk, nif_eq, putE, paramsE, valS, val2, keepE, restrict, finA, resA, binA, binInt, ofConst, ofConst1, loadA, TK.isAgg, asVar, unA, builtinA, lenOpA, lenA, ileb_cast, ileb_eq, ieqb_dec, indexAddrA, inB_dec, evPairs, storeA, AV.cellsOf, pairsOf, xI_nil, binBool, gcE, evOpt, xI_block, xI_loopH, xI_condM, xI_exitM, xI_skip, xI_blk, exitA, ty2, ty4, ty22, eK70_0_0, hw, hw1, hin, hA]
      rfl
  · have hin : ¬ (n : Int) ≤ 12 := by omega
    have hsr : shufR d cs = none := by unfold shufR; rw [← hnn, if_neg hn]
    rw [hsr]
    refine FnO.mkN fn70 rfl md70 ⟨⟨[], 0⟩, ?_⟩
    rw [fi70]
    simp [xI_seq, xI_region, xI_ret, regA, regOps, runOps, opStep, wantedA, opA, evo, evos, calleeA, lk, nif_eq, putE, paramsE, valS, val2, keepE, restrict, finA, resA, binA, binInt, ofConst, ofConst1, loadA, TK.isAgg, asVar, unA, builtinA, lenOpA, lenA, ileb_cast, ileb_eq, ieqb_dec, indexAddrA, inB_dec, evPairs, storeA, AV.cellsOf, pairsOf, xI_nil, binBool, gcE, evOpt, xI_block, xI_loopH, xI_condM, xI_exitM, xI_skip, xI_blk, exitA, ty2, ty4, ty22, eK70_0_0, hw, hin]

theorem o27 (cs : List Int) (hs : cs.length < 2000000) : FnO TT 27 [.lst cs.length (ints cs)] (shufR 1 cs) := by
  obtain ⟨o, h⟩ := o71 cs 1 (by omega) (by omega) ⟨[], 0⟩ [.lst cs.length (ints cs), .int .i64 1] rfl
  cases hx : shufR 1 cs with
  | none =>
    rw [hx] at h
    refine FnO.mkN fn27 rfl md27 ⟨⟨[], 0⟩, ?_⟩
    rw [fi27]
    simp [xI_seq, xI_region, xI_ret, regA, regOps, runOps, opStep, wantedA, opA, evo, evos, calleeA, lk, nif_eq, putE, paramsE, valS, val2, keepE, restrict, finA, resA, binA, binInt, ofConst, ofConst1, loadA, TK.isAgg, asVar, unA, builtinA, lenOpA, lenA, ileb_cast, ileb_eq, ieqb_dec, indexAddrA, inB_dec, evPairs, storeA, AV.cellsOf, pairsOf, xI_nil, binBool, gcE, evOpt, xI_block, xI_loopH, xI_condM, xI_exitM, xI_skip, xI_blk, exitA, h, optR]
  | some out =>
    rw [hx] at h
    refine FnO.mkS fn27 rfl md27 ⟨(⟨[], 0⟩ : St).push ⟨ints out, 1, o⟩, 0, o, ?_, get_push_same⟩
    rw [fi27]
    simp [xI_seq, xI_region, xI_ret, regA, regOps, runOps, opStep, wantedA, opA, evo, evos, calleeA, lk, nif_eq, putE, paramsE, valS, val2, keepE, restrict, finA, resA, binA, binInt, ofConst, ofConst1, loadA, TK.isAgg, asVar, unA, builtinA, lenOpA, lenA, ileb_cast, ileb_eq, ieqb_dec, indexAddrA, inB_dec, evPairs, storeA, AV.cellsOf, pairsOf, xI_nil, binBool, gcE, evOpt, xI_block, xI_loopH, xI_condM, xI_exitM, xI_skip, xI_blk, exitA, h, optR]

theorem o29 (cs : List Int) (hs : cs.length < 2000000) : FnO TT 29 [.lst cs.length (ints cs)] (shufR 0 cs) := by
  obtain ⟨o, h⟩ := o71 cs 0 (by omega) (by omega) ⟨[], 0⟩ [.lst cs.length (ints cs), .int .i64 0] rfl
  cases hx : shufR 0 cs with
  | none =>
    rw [hx] at h
    refine FnO.mkN fn29 rfl md29 ⟨⟨[], 0⟩, ?_⟩
    rw [fi29]
    simp [xI_seq, xI_region, xI_ret, regA, regOps, runOps, opStep, wantedA, opA, evo, evos, calleeA, lk, nif_eq, putE, paramsE, valS, val2, keepE, restrict, finA, resA, binA, binInt, ofConst, ofConst1, loadA, TK.isAgg, asVar, unA, builtinA, lenOpA, lenA, ileb_cast, ileb_eq, ieqb_dec, indexAddrA, inB_dec, evPairs, storeA, AV.cellsOf, pairsOf, xI_nil, binBool, gcE, evOpt, xI_block, xI_loopH, xI_condM, xI_exitM, xI_skip, xI_blk, exitA, h, optR]
  | some out =>
    rw [hx] at h
    refine FnO.mkS fn29 rfl md29 ⟨(⟨[], 0⟩ : St).push ⟨ints out, 1, o⟩, 0, o, ?_, get_push_same⟩
    rw [fi29]
    simp [xI_seq, xI_region, xI_ret, regA, regOps, runOps, opStep, wantedA, opA, evo, evos, calleeA, lk, nif_eq, putE, paramsE, valS, val2, keepE, restrict, finA, resA, binA, binInt, ofConst, ofConst1, loadA, TK.isAgg, asVar, unA, builtinA, lenOpA, lenA, ileb_cast, ileb_eq, ieqb_dec, indexAddrA, inB_dec, evPairs, storeA, AV.cellsOf, pairsOf, xI_nil, binBool, gcE, evOpt, xI_block, xI_loopH, xI_condM, xI_exitM, xI_skip, xI_blk, exitA, h, optR]

theorem o26 (cs : List Int) (hs : cs.length < 2000000) : FnO TT 26 [.lst cs.length (ints cs)] (shufR 1 cs) := by
  obtain ⟨o, h⟩ := o70 cs 1 (by omega) (by omega) ⟨[], 0⟩ [.lst cs.length (ints cs), .int .i64 1] rfl
  cases hx : shufR 1 cs with
  | none =>
    rw [hx] at h
    refine FnO.mkN fn26 rfl md26 ⟨⟨[], 0⟩, ?_⟩
    rw [fi26]
    simp [xI_seq, xI_region, xI_ret, regA, regOps, runOps, opStep, wantedA, opA, evo, evos, calleeA, lk, nif_eq, putE, paramsE, valS, val2, keepE, restrict, finA, resA, binA, binInt, ofConst, ofConst1, loadA, TK.isAgg, asVar, unA, builtinA, lenOpA, lenA, ileb_cast, ileb_eq, ieqb_dec, indexAddrA, inB_dec, evPairs, storeA, AV.cellsOf, pairsOf, xI_nil, binBool, gcE, evOpt, xI_block, xI_loopH, xI_condM, xI_exitM, xI_skip, xI_blk, exitA, h, optR]
  | some out =>
    rw [hx] at h
    refine FnO.mkS fn26 rfl md26 ⟨(⟨[], 0⟩ : St).push ⟨ints out, 1, o⟩, 0, o, ?_, get_push_same⟩
    rw [fi26]
    simp [xI_seq, xI_region, xI_ret, regA, regOps, runOps, opStep, wantedA, opA, evo, evos, calleeA, lk, nif_eq, putE, paramsE, valS, val2, keepE, restrict, finA, resA, binA, binInt, ofConst, ofConst1, loadA, TK.isAgg, asVar, unA, builtinA, lenOpA, lenA, ileb_cast, ileb_eq, ieqb_dec, indexAddrA, inB_dec, evPairs, storeA, AV.cellsOf, pairsOf, xI_nil, binBool, gcE, evOpt, xI_block, xI_loopH, xI_condM, xI_exitM, xI_skip, xI_blk, exitA, h, optR]

theorem o28 (cs : List Int) (hs : cs.length < 2000000) : FnO TT 28 [.lst cs.length (ints cs)] (shufR 0 cs) := by
  obtain ⟨o, h⟩ := o70 cs 0 (by omega) (by omega) ⟨[], 0⟩ [.lst cs.length (ints cs), .int .i64 0] rfl
  cases hx : shufR 0 cs with
  | none =>
    rw [hx] at h
    refine FnO.mkN fn28 rfl md28 ⟨⟨[], 0⟩, ?_⟩
    rw [fi28]
    simp [xI_seq, xI_region, xI_ret, regA, regOps, runOps, opStep, wantedA, opA, evo, evos, calleeA, lk, nif_eq, putE, paramsE, valS, val2, keepE, restrict, finA, resA, binA, binInt, ofConst, ofConst1, loadA, TK.isAgg, asVar, unA, builtinA, lenOpA, lenA, ileb_cast, ileb_eq, ieqb_dec, indexAddrA, inB_dec, evPairs, storeA, AV.cellsOf, pairsOf, xI_nil, binBool, gcE, evOpt, xI_block, xI_loopH, xI_condM, xI_exitM, xI_skip, xI_blk, exitA, h, optR]
  | some out =>
    rw [hx] at h
    refine FnO.mkS fn28 rfl md28 ⟨(⟨[], 0⟩ : St).push ⟨ints out, 1, o⟩, 0, o, ?_, get_push_same⟩
    rw [fi28]
    simp [xI_seq, xI_region, xI_ret, regA, regOps, runOps, opStep, wantedA, opA, evo, evos, calleeA, lk, nif_eq, putE, paramsE, valS, val2, keepE, restrict, finA, resA, binA, binInt, ofConst, ofConst1, loadA, TK.isAgg, asVar, unA, builtinA, lenOpA, lenA, ileb_cast, ileb_eq, ieqb_dec, indexAddrA, inB_dec, evPairs, storeA, AV.cellsOf, pairsOf, xI_nil, binBool, gcE, evOpt, xI_block, xI_loopH, xI_condM, xI_exitM, xI_skip, xI_blk, exitA, h, optR]

end Go.Proofs.Ytaniaeefijgaiaa
