/- Law: shuffles, ranks and cycles of orders. Nothing is claimed here; no condition. -/
import Derived.Test.YtaniaeefijgaiaaDl
namespace Go.Proofs.Ytaniaeefijgaiaa
open Go Go.Abs
set_option linter.unusedSimpArgs false
set_option linter.unusedVariables false
noncomputable def b18 : Code := Try.f18.body.getD .skip
noncomputable def B18_0 : Code := (bodyC (bodyC (sndC (fstC (sndC (sndC (sndC (sndC (sndC (sndC (sndC (sndC (sndC (sndC b18))))))))))))))
noncomputable def K18_0 : List It := .lp B18_0 :: .blk 0 :: .code (sndC (sndC (sndC (sndC (sndC (sndC (sndC (sndC (sndC (sndC (sndC b18))))))))))) :: []
theorem xl18_0 {fi : FI} {env : Env} {σ : St} : exI TT fi K18_0 env σ = exI TT fi (.code B18_0 :: K18_0) env σ := by unfold K18_0; exact xI_lp
noncomputable def R18_0_0 : List It := .code (sndC (sndC (sndC (sndC (sndC (sndC (sndC (sndC (sndC (sndC (sndC b18))))))))))) :: []
theorem eK18_0_0 : exitA 0 K18_0 = some R18_0_0 := rfl
noncomputable def B18_1 : Code := (bodyC (bodyC (sndC (fstC (sndC (sndC (sndC (sndC (sndC (sndC (sndC (sndC (sndC (sndC (sndC (sndC (sndC (sndC (sndC (sndC b18))))))))))))))))))))
noncomputable def K18_1 : List It := .lp B18_1 :: .blk 2 :: .code (sndC (sndC (sndC (sndC (sndC (sndC (sndC (sndC (sndC (sndC (sndC (sndC (sndC (sndC (sndC (sndC (sndC b18))))))))))))))))) :: []
theorem xl18_1 {fi : FI} {env : Env} {σ : St} : exI TT fi K18_1 env σ = exI TT fi (.code B18_1 :: K18_1) env σ := by unfold K18_1; exact xI_lp
noncomputable def R18_1_2 : List It := .code (sndC (sndC (sndC (sndC (sndC (sndC (sndC (sndC (sndC (sndC (sndC (sndC (sndC (sndC (sndC (sndC (sndC b18))))))))))))))))) :: []
theorem eK18_1_2 : exitA 2 K18_1 = some R18_1_2 := rfl
noncomputable def B18_2 : Code := (bodyC (bodyC (sndC (fstC (bodyC (fstC (sndC (bodyC (bodyC (sndC (fstC (sndC (sndC (sndC (sndC (sndC (sndC (sndC (sndC (sndC (sndC (sndC (sndC (sndC (sndC (sndC (sndC b18)))))))))))))))))))))))))))
noncomputable def K18_2 : List It := .lp B18_2 :: .blk 4 :: .code (sndC (bodyC (fstC (sndC (bodyC (bodyC (sndC (fstC (sndC (sndC (sndC (sndC (sndC (sndC (sndC (sndC (sndC (sndC (sndC (sndC (sndC (sndC (sndC (sndC b18)))))))))))))))))))))))) :: .blk 3 :: .code (sndC (sndC (bodyC (bodyC (sndC (fstC (sndC (sndC (sndC (sndC (sndC (sndC (sndC (sndC (sndC (sndC (sndC (sndC (sndC (sndC (sndC (sndC b18)))))))))))))))))))))) :: K18_1
theorem xl18_2 {fi : FI} {env : Env} {σ : St} : exI TT fi K18_2 env σ = exI TT fi (.code B18_2 :: K18_2) env σ := by unfold K18_2; exact xI_lp
noncomputable def R18_2_4 : List It := .code (sndC (bodyC (fstC (sndC (bodyC (bodyC (sndC (fstC (sndC (sndC (sndC (sndC (sndC (sndC (sndC (sndC (sndC (sndC (sndC (sndC (sndC (sndC (sndC (sndC b18)))))))))))))))))))))))) :: .blk 3 :: .code (sndC (sndC (bodyC (bodyC (sndC (fstC (sndC (sndC (sndC (sndC (sndC (sndC (sndC (sndC (sndC (sndC (sndC (sndC (sndC (sndC (sndC (sndC b18)))))))))))))))))))))) :: K18_1
theorem eK18_2_4 : exitA 4 K18_2 = some R18_2_4 := rfl
noncomputable def R18_2_3 : List It := .code (sndC (sndC (bodyC (bodyC (sndC (fstC (sndC (sndC (sndC (sndC (sndC (sndC (sndC (sndC (sndC (sndC (sndC (sndC (sndC (sndC (sndC (sndC b18)))))))))))))))))))))) :: K18_1
theorem eK18_2_3 : exitA 3 K18_2 = some R18_2_3 := rfl
theorem eK18_2_2 : exitA 2 K18_2 = some R18_1_2 := rfl
theorem mod_n (a b : Nat) : (a : Int).tmod (b : Int) = ((modN a b : Nat) : Int) := rfl
set_option maxHeartbeats 4000000 in
theorem d18 (o : List Int) (n : Nat) (hn : n = o.length) (hs : n ≤ 12) (cy : List Int) (q : Nat) (hq : q = cy.length) (hq13 : q ≤ 13) (hc : CycOk o cy) (i N b bo c : Nat) (hi : i < N) (V23 : AV) (σ : St) (ho : Row σ bo o) (hb : cellsAt σ (.ptr b i) 1 = some [.sl c 0 q q]) (hcy : Row σ c cy) : ∀ (m k : Nat), k + m = q →
    exI TT (FI.of Try.f18 (TT.an 18)) K18_2 [(5, .sl bo 0 n n), (6, .int .i64 n), (21, .sl b 0 N N), (23, V23), (24, .int .i64 i), (25, .int .i64 k)] σ = exI TT (FI.of Try.f18 (TT.an 18)) R18_2_4 [(5, .sl bo 0 n n), (6, .int .i64 n), (21, .sl b 0 N N), (23, V23), (24, .int .i64 i), (25, .int .i64 q), (153, .bool false)] σ := by
  intro m
  induction m with
  | zero =>
    intro k hk
    have hkq : k = q := by omega
    subst hkq
    rw [fi18, xl18_2]
    simp only [B18_2, b18, Try.f18, Option.getD, fstC, sndC, bodyC, thnC, elsC]
    simp (maxSteps := 1000000) (disch := omega) [xI_seq, xI_region, xI_ret, regA, regOps, runOps, opStep, wantedA, opA, evo, evos, calleeA, lk, nif_eq, putE, paramsE, valS, val2, keepE, restrict, finA, resA, binA, binInt, ofConst, ofConst1, loadA, TK.isAgg, asVar, unA, builtinA, lenOpA, lenA, indexAddrA, evPairs, storeA, AV.cellsOf, pairsOf, xI_nil, binBool, gcE, evOpt, runTr, pairsOk, pairOk, sameVal, AV.eqv, lastOf, lstAt, eqvs, boundA, indexA, regF, twoOf, prsOf, memI, runTrF, selF, runTr2, freshOp, scals, AV.scal, xI_block, xI_loopH, xI_condM, xI_exitM, xI_skip, xI_blk, exitA, List.getElem?_cons_zero, List.getElem?_cons_succ, List.getElem?_toArray, List.getElem?_nil, ileb_t, ileb_f, ieqb_t, ieqb_f, inB_t, wrapA_id, lp_read, ieqb_self, Nat.blt_eq, cond_true, cond_false, ty2, ty3, ty4, ty22, ty40, eK18_0_0, eK18_1_2, eK18_2_4, eK18_2_3, eK18_2_2, hb]
  | succ m ih =>
    intro k hk
    rw [← ih (k + 1) (by omega)]
    obtain ⟨a1, a2, a3, a4⟩ := hc k (by omega)
    have hw : wrapA .i64 ((k : Int) + 1) = ((k + 1 : Nat) : Int) := by rw [wrapA_id (by omega) (by omega)]; omega
    have hmq : modN (k + 1) q < q := Nat.mod_lt _ (by omega)
    have a3' : at0 o (at0 cy k).toNat = at0 cy (modN (k + 1) q) := by rw [a3, ← hq]; rfl
    have g1 := row_rd (i := k) hcy (by omega)
    have g2 := row_rd (i := modN (k + 1) q) hcy (by omega)
    have g3 := row_rd (i := 0) hcy (by omega)
    have g4 := row_rd (i := (at0 cy k).toNat) ho (by omega)
    rw [a3'] at g4
    have hm := mod_n (k + 1) q
    have hm2 : ((k + 1 : Nat) : Int) % (q : Int) = ((modN (k + 1) q : Nat) : Int) := rfl
    generalize modN (k + 1) q = mm at *
    generalize k + 1 = k1 at *
    generalize hv : at0 cy k = v at *
    generalize at0 cy mm = u at *
    generalize at0 cy 0 = z at *
    rw [fi18, xl18_2]
    simp only [B18_2, b18, Try.f18, Option.getD, fstC, sndC, bodyC, thnC, elsC]
    simp (maxSteps := 1000000) (disch := omega) [xI_seq, xI_region, xI_ret, regA, regOps, runOps, opStep, wantedA, opA, evo, evos, calleeA, lk, nif_eq, putE, paramsE, valS, val2, keepE, restrict, finA, resA, binA, binInt, ofConst, ofConst1, loadA, TK.isAgg, asVar, unA, builtinA, lenOpA, lenA, indexAddrA, evPairs, storeA, AV.cellsOf, pairsOf, xI_nil, binBool, gcE, evOpt, runTr, pairsOk, pairOk, sameVal, AV.eqv, lastOf, lstAt, eqvs, boundA, indexA, regF, twoOf, prsOf, memI, runTrF, selF, runTr2, freshOp, scals, AV.scal, xI_block, xI_loopH, xI_condM, xI_exitM, xI_skip, xI_blk, exitA, List.getElem?_cons_zero, List.getElem?_cons_succ, List.getElem?_toArray, List.getElem?_nil, ileb_t, ileb_f, ieqb_t, ieqb_f, inB_t, wrapA_id, lp_read, ieqb_self, Nat.blt_eq, cond_true, cond_false, ty2, ty3, ty4, ty22, ty40, eK18_0_0, eK18_1_2, eK18_2_4, eK18_2_3, eK18_2_2, hb, g1, g2, g3, g4, hw, hm, hm2]
set_option maxHeartbeats 4000000 in
theorem l18 (o : List Int) (n : Nat) (hn : n = o.length) (hs : n ≤ 12) (L : List (List Int)) (N : Nat) (hN : N = L.length) (hN12 : N ≤ 12) (hL : ∀ c ∈ L, CycOk o c ∧ c.length ≤ 13) (b bo : Nat) (bs : List Nat) (σ : St) (ho : Row σ bo o) (hr : Row2 σ b bs L) : ∀ (m i cnt : Nat), i + m = N → cnt ≤ 13 * i →
    exI TT (FI.of Try.f18 (TT.an 18)) K18_1 [(5, .sl bo 0 n n), (6, .int .i64 n), (21, .sl b 0 N N), (23, .int .i64 cnt), (24, .int .i64 i)] σ = some (.bool (decide (cnt + totL (L.drop i) = n)), σ) := by
  intro m
  induction m with
  | zero =>
    intro i cnt hi hcnt
    have hiN : i = N := by omega
    subst hiN
    rw [List.drop_eq_nil_of_le (by omega), show totL [] = 0 from rfl, Nat.add_zero]
    rw [fi18, xl18_1]
    simp only [B18_1, b18, Try.f18, Option.getD, fstC, sndC, bodyC, thnC, elsC]
    simp (maxSteps := 1000000) (disch := omega) [xI_seq, xI_region, xI_ret, regA, regOps, runOps, opStep, wantedA, opA, evo, evos, calleeA, lk, nif_eq, putE, paramsE, valS, val2, keepE, restrict, finA, resA, binA, binInt, ofConst, ofConst1, loadA, TK.isAgg, asVar, unA, builtinA, lenOpA, lenA, indexAddrA, evPairs, storeA, AV.cellsOf, pairsOf, xI_nil, binBool, gcE, evOpt, runTr, pairsOk, pairOk, sameVal, AV.eqv, lastOf, lstAt, eqvs, boundA, indexA, regF, twoOf, prsOf, memI, runTrF, selF, runTr2, freshOp, scals, AV.scal, xI_block, xI_loopH, xI_condM, xI_exitM, xI_skip, xI_blk, exitA, List.getElem?_cons_zero, List.getElem?_cons_succ, List.getElem?_toArray, List.getElem?_nil, ileb_t, ileb_f, ieqb_t, ieqb_f, inB_t, wrapA_id, lp_read, ieqb_self, Nat.blt_eq, cond_true, cond_false, ty2, ty3, ty4, ty22, ty40, eK18_0_0, eK18_1_2, eK18_2_4, eK18_2_3, eK18_2_2]
    simp only [R18_1_2, b18, Try.f18, Option.getD, fstC, sndC, bodyC, thnC, elsC]
    by_cases he : cnt = n
    · have he' : (cnt : Int) = n := by omega
      simp (maxSteps := 1000000) (disch := omega) [xI_seq, xI_region, xI_ret, regA, regOps, runOps, opStep, wantedA, opA, evo, evos, calleeA, lk, nif_eq, putE, paramsE, valS, val2, keepE, restrict, finA, resA, binA, binInt, ofConst, ofConst1, loadA, TK.isAgg, asVar, unA, builtinA, lenOpA, lenA, indexAddrA, evPairs, storeA, AV.cellsOf, pairsOf, xI_nil, binBool, gcE, evOpt, runTr, pairsOk, pairOk, sameVal, AV.eqv, lastOf, lstAt, eqvs, boundA, indexA, regF, twoOf, prsOf, memI, runTrF, selF, runTr2, freshOp, scals, AV.scal, xI_block, xI_loopH, xI_condM, xI_exitM, xI_skip, xI_blk, exitA, List.getElem?_cons_zero, List.getElem?_cons_succ, List.getElem?_toArray, List.getElem?_nil, ileb_t, ileb_f, ieqb_t, ieqb_f, inB_t, wrapA_id, lp_read, ieqb_self, Nat.blt_eq, cond_true, cond_false, ty2, ty3, ty4, ty22, ty40, eK18_0_0, eK18_1_2, eK18_2_4, eK18_2_3, eK18_2_2, he, he']
    · have he' : ¬ (cnt : Int) = n := by omega
      simp (maxSteps := 1000000) (disch := omega) [xI_seq, xI_region, xI_ret, regA, regOps, runOps, opStep, wantedA, opA, evo, evos, calleeA, lk, nif_eq, putE, paramsE, valS, val2, keepE, restrict, finA, resA, binA, binInt, ofConst, ofConst1, loadA, TK.isAgg, asVar, unA, builtinA, lenOpA, lenA, indexAddrA, evPairs, storeA, AV.cellsOf, pairsOf, xI_nil, binBool, gcE, evOpt, runTr, pairsOk, pairOk, sameVal, AV.eqv, lastOf, lstAt, eqvs, boundA, indexA, regF, twoOf, prsOf, memI, runTrF, selF, runTr2, freshOp, scals, AV.scal, xI_block, xI_loopH, xI_condM, xI_exitM, xI_skip, xI_blk, exitA, List.getElem?_cons_zero, List.getElem?_cons_succ, List.getElem?_toArray, List.getElem?_nil, ileb_t, ileb_f, ieqb_t, ieqb_f, inB_t, wrapA_id, lp_read, ieqb_self, Nat.blt_eq, cond_true, cond_false, ty2, ty3, ty4, ty22, ty40, eK18_0_0, eK18_1_2, eK18_2_4, eK18_2_3, eK18_2_2, he, he']
  | succ m ih =>
    intro i cnt hi hcnt
    have hiL : i < L.length := by omega
    have hmem : atL L i ∈ L := List.mem_of_getElem? (atL_some hiL)
    obtain ⟨hc1, hc2⟩ := hL _ hmem
    have hd : L.drop i = atL L i :: L.drop (i + 1) := by
      rw [List.drop_eq_getElem_cons hiL]
      have := atL_some hiL
      rw [List.getElem?_eq_getElem hiL] at this
      rw [Option.some.inj this]
    obtain ⟨c, hcb⟩ : ∃ c, bs[i]? = some c := ⟨bs[i]'(by have := hr.2.1.len; omega), List.getElem?_eq_getElem _⟩
    have hrow : Row σ c (atL L i) := hr.2.1.at hcb (atL_some hiL)
    have hb : cellsAt σ (.ptr b i) 1 = some [.sl c 0 (atL L i).length (atL L i).length] := hr.1.read (slc_get hcb (atL_some hiL))
    have hd18 := d18 o n hn hs (atL L i) (atL L i).length rfl hc2 hc1 i N b bo c (by omega) (.int .i64 cnt) σ ho hb hrow (atL L i).length 0 (by omega)
    have ih := ih (i + 1) (cnt + (atL L i).length) (by omega) (by omega)
    rw [hd, totL, ← Nat.add_assoc, ← ih]
    have hw1 : wrapA .i64 ((cnt : Int) + ((atL L i).length : Int)) = ((cnt + (atL L i).length : Nat) : Int) := by rw [wrapA_id (by omega) (by omega)]; omega
    have hw2 : wrapA .i64 ((i : Int) + 1) = ((i + 1 : Nat) : Int) := by rw [wrapA_id (by omega) (by omega)]; omega
    generalize (atL L i).length = q at *
    generalize cnt + q = cnt2 at *
    generalize i + 1 = i2 at *
    simp only [show ((0 : Nat) : Int) = 0 from rfl] at hd18
    rw [fi18] at hd18 ⊢
    rw [xl18_1]
    simp only [B18_1, b18, Try.f18, Option.getD, fstC, sndC, bodyC, thnC, elsC]
    simp (maxSteps := 1000000) (disch := omega) [xI_seq, xI_region, xI_ret, regA, regOps, runOps, opStep, wantedA, opA, evo, evos, calleeA, lk, nif_eq, putE, paramsE, valS, val2, keepE, restrict, finA, resA, binA, binInt, ofConst, ofConst1, loadA, TK.isAgg, asVar, unA, builtinA, lenOpA, lenA, indexAddrA, evPairs, storeA, AV.cellsOf, pairsOf, xI_nil, binBool, gcE, evOpt, runTr, pairsOk, pairOk, sameVal, AV.eqv, lastOf, lstAt, eqvs, boundA, indexA, regF, twoOf, prsOf, memI, runTrF, selF, runTr2, freshOp, scals, AV.scal, xI_block, xI_loopH, xI_condM, xI_exitM, xI_skip, xI_blk, exitA, List.getElem?_cons_zero, List.getElem?_cons_succ, List.getElem?_toArray, List.getElem?_nil, ileb_t, ileb_f, ieqb_t, ieqb_f, inB_t, wrapA_id, lp_read, ieqb_self, Nat.blt_eq, cond_true, cond_false, ty2, ty3, ty4, ty22, ty40, eK18_0_0, eK18_1_2, eK18_2_4, eK18_2_3, eK18_2_2, hb]
    refine hd18.trans ?_
    simp only [R18_2_4, b18, Try.f18, Option.getD, fstC, sndC, bodyC, thnC, elsC]
    simp (maxSteps := 1000000) (disch := omega) [xI_seq, xI_region, xI_ret, regA, regOps, runOps, opStep, wantedA, opA, evo, evos, calleeA, lk, nif_eq, putE, paramsE, valS, val2, keepE, restrict, finA, resA, binA, binInt, ofConst, ofConst1, loadA, TK.isAgg, asVar, unA, builtinA, lenOpA, lenA, indexAddrA, evPairs, storeA, AV.cellsOf, pairsOf, xI_nil, binBool, gcE, evOpt, runTr, pairsOk, pairOk, sameVal, AV.eqv, lastOf, lstAt, eqvs, boundA, indexA, regF, twoOf, prsOf, memI, runTrF, selF, runTr2, freshOp, scals, AV.scal, xI_block, xI_loopH, xI_condM, xI_exitM, xI_skip, xI_blk, exitA, List.getElem?_cons_zero, List.getElem?_cons_succ, List.getElem?_toArray, List.getElem?_nil, ileb_t, ileb_f, ieqb_t, ieqb_f, inB_t, wrapA_id, lp_read, ieqb_self, Nat.blt_eq, cond_true, cond_false, ty2, ty3, ty4, ty22, ty40, eK18_0_0, eK18_1_2, eK18_2_4, eK18_2_3, eK18_2_2, hb, hw1, hw2]
set_option maxHeartbeats 2000000 in
theorem a18 (l : List Nat) (hl : ∀ x ∈ l, x < 256) (V5 V6 : AV) : ∀ (m q : Nat) (cs : List Int) (b : Nat) (σ : St), m ≤ 12 → q = cs.length → q + m ≤ 12 → Row σ b cs →
    ∃ σ' b' r, exI TT (FI.of Try.f18 (TT.an 18)) K18_0 [(1, .lst l.length (byts l)), (5, V5), (6, V6), (15, .sl b 0 q q), (16, .int .i64 m)] σ = exI TT (FI.of Try.f18 (TT.an 18)) R18_0_0 [(1, .lst l.length (byts l)), (5, V5), (6, V6), (15, .sl b' 0 (q + m) (q + m)), (16, .int .i64 0), (101, .bool false)] σ' ∧ Row σ' b' (cs ++ r) ∧ r.length = m ∧ Less m r ∧ σ.n ≤ σ'.n ∧ ∀ x, x ≠ b → x < σ.n → σ'.get x = σ.get x := by
  intro m
  induction m with
  | zero =>
    intro q cs b σ hm hq hqm hr
    refine ⟨σ, b, [], ?_, by simpa using hr, rfl, trivial, Nat.le_refl _, fun _ _ _ => rfl⟩
    rw [fi18, xl18_0]
    simp only [B18_0, b18, Try.f18, Option.getD, fstC, sndC, bodyC, thnC, elsC]
    simp (maxSteps := 1000000) (disch := omega) [xI_seq, xI_region, xI_ret, regA, regOps, runOps, opStep, wantedA, opA, evo, evos, calleeA, lk, nif_eq, putE, paramsE, valS, val2, keepE, restrict, finA, resA, binA, binInt, ofConst, ofConst1, loadA, TK.isAgg, asVar, unA, builtinA, lenOpA, lenA, indexAddrA, evPairs, storeA, AV.cellsOf, pairsOf, xI_nil, binBool, gcE, evOpt, runTr, pairsOk, pairOk, sameVal, AV.eqv, lastOf, lstAt, eqvs, boundA, indexA, regF, twoOf, prsOf, memI, runTrF, selF, runTr2, freshOp, scals, AV.scal, xI_block, xI_loopH, xI_condM, xI_exitM, xI_skip, xI_blk, exitA, List.getElem?_cons_zero, List.getElem?_cons_succ, List.getElem?_toArray, List.getElem?_nil, ileb_t, ileb_f, ieqb_t, ieqb_f, inB_t, wrapA_id, lp_read, ieqb_self, Nat.blt_eq, cond_true, cond_false, ty2, ty3, ty4, ty22, ty40, eK18_0_0, eK18_1_2, eK18_2_4, eK18_2_3, eK18_2_2]
  | succ m ih =>
    intro q cs b σ hm hq hqm hr
    obtain ⟨c, hc, vc⟩ := v56 l hl (m + 1) (m + 1) (by omega) (by omega)
    have e1 := fun σ => vc σ [.lst l.length (byts l), .int .i64 (m + 1 : Nat), .int .i64 (m + 1 : Nat)] rfl
    have e2 := fun σ => bs22 σ (c : Int)
    obtain ⟨σ2, c2, r2, n2, o2⟩ := append_row (T := TT) (x := (c : Int)) ty22 ty2 hr hq (by omega)
    obtain ⟨σ', b', r, k1, k2, k3, k4, k5, k6⟩ := ih (q + 1) (cs ++ [(c : Int)]) _ σ2 (by omega) (by simp [hq]) (by omega) r2
    have hbl := hr.lt
    refine ⟨σ', b', (c : Int) :: r, ?_, by simpa using k2, by simp [k3], ⟨by omega, k4⟩, by omega, fun x hx hxn => ?_⟩
    · rw [show q + (m + 1) = q + 1 + m by omega, ← k1]
      have hw : wrapA .i64 ((m + 1 : Nat) - 1 : Int) = (m : Int) := by rw [wrapA_id (by omega) (by omega)]; omega
      have hpos : 0 < m + 1 := by omega
      generalize m + 1 = m1 at *
      rw [fi18, xl18_0]
      simp only [B18_0, b18, Try.f18, Option.getD, fstC, sndC, bodyC, thnC, elsC]
      simp (maxSteps := 1000000) (disch := omega) [xI_seq, xI_region, xI_ret, regA, regOps, runOps, opStep, wantedA, opA, evo, evos, calleeA, lk, nif_eq, putE, paramsE, valS, val2, keepE, restrict, finA, resA, binA, binInt, ofConst, ofConst1, loadA, TK.isAgg, asVar, unA, builtinA, lenOpA, lenA, indexAddrA, evPairs, storeA, AV.cellsOf, pairsOf, xI_nil, binBool, gcE, evOpt, runTr, pairsOk, pairOk, sameVal, AV.eqv, lastOf, lstAt, eqvs, boundA, indexA, regF, twoOf, prsOf, memI, runTrF, selF, runTr2, freshOp, scals, AV.scal, xI_block, xI_loopH, xI_condM, xI_exitM, xI_skip, xI_blk, exitA, List.getElem?_cons_zero, List.getElem?_cons_succ, List.getElem?_toArray, List.getElem?_nil, ileb_t, ileb_f, ieqb_t, ieqb_f, inB_t, wrapA_id, lp_read, ieqb_self, Nat.blt_eq, cond_true, cond_false, ty2, ty3, ty4, ty22, ty40, eK18_0_0, eK18_1_2, eK18_2_4, eK18_2_3, eK18_2_2, e1, e2, c2, hw]
    · rw [k6 x (by omega) (by omega), o2 x hx hxn]
theorem law_orders {n r : Nat} (h1 : 1 ≤ n) (h7 : n ≤ 7) (hr : r < fac n) : ∃ o : List Int, o = ordAt n (iotaF 0 n) r [] ∧ o.length = n ∧ isO o = true ∧ shufR 0 (cho o (o.length - 1) (iotaF 0 o.length) []) = some o ∧ ordAt n (iotaF 0 n) (rankG o n 0) [] = o := by
  have hp := ordAt_perm n (iotaF 0 n) r [] (iotaF_length _ _) hr
  rw [List.nil_append] at hp
  have hl : (ordAt n (iotaF 0 n) r []).length = n := by rw [ordAt_length]; simp
  have ho := isO_perm h1 (by omega) hp
  generalize ordAt n (iotaF 0 n) r [] = o at *
  refine ⟨o, rfl, hl, ho, ?_, ?_⟩
  · have hn : o.Nodup := by
      simp only [isO, Bool.and_eq_true, decide_eq_true_eq] at ho
      exact ho.2.2
    have := shuf_cho o hn (n - 1) 0 (iotaF 0 n) (by omega) hp.symm (fun j hj hj2 => by omega)
    rw [cho_S, List.nil_append, hl, shufR, choS_length]
    · rw [if_pos (by omega), show n - 1 + 1 = n by omega]
      rw [hl] at this
      exact this
  · have := rank_ord o n 0 (iotaF 0 n) [] (by omega) (iota_rises n 0).1 (by simpa using hp.symm)
    simpa using this

set_option maxHeartbeats 8000000 in
theorem w18 (xs ys : List Nat) (hx : ∀ x ∈ xs, x < 256) (hy : ∀ x ∈ ys, x < 256) : FnV TT 18 [.lst xs.length (byts xs), .lst ys.length (byts ys)] (.bool true) := by
  have hL : ∀ σ, callI TT 55 [.lst xs.length (byts xs), .lst ys.length (byts ys)] σ = some (.bool (decide (1048576 < xs.length) || decide (1048576 < ys.length)), σ) := fun σ => v55 _ _ _ _ σ _ rfl
  refine FnV.mk fn18 rfl md18 ?_ (fun _ => rfl) rfl
  cases hb : (decide (1048576 < xs.length) || decide (1048576 < ys.length)) with
  | true =>
    rw [hb] at hL
    refine ⟨⟨[], 0⟩, ?_⟩
    rw [fi18]
    simp (maxSteps := 1000000) (disch := omega) [xI_seq, xI_region, xI_ret, regA, regOps, runOps, opStep, wantedA, opA, evo, evos, calleeA, lk, nif_eq, putE, paramsE, valS, val2, keepE, restrict, finA, resA, binA, binInt, ofConst, ofConst1, loadA, TK.isAgg, asVar, unA, builtinA, lenOpA, lenA, indexAddrA, evPairs, storeA, AV.cellsOf, pairsOf, xI_nil, binBool, gcE, evOpt, runTr, pairsOk, pairOk, sameVal, AV.eqv, lastOf, lstAt, eqvs, boundA, indexA, regF, twoOf, prsOf, memI, runTrF, selF, runTr2, freshOp, scals, AV.scal, xI_block, xI_loopH, xI_condM, xI_exitM, xI_skip, xI_blk, exitA, List.getElem?_cons_zero, List.getElem?_cons_succ, List.getElem?_toArray, List.getElem?_nil, ileb_t, ileb_f, ieqb_t, ieqb_f, inB_t, wrapA_id, lp_read, ieqb_self, Nat.blt_eq, cond_true, cond_false, ty2, ty3, ty4, ty22, ty40, eK18_0_0, eK18_1_2, eK18_2_4, eK18_2_3, eK18_2_2, hL]
  | false =>
    rw [hb] at hL
    simp only [Bool.or_eq_false_iff, decide_eq_false_iff_not] at hb
    obtain ⟨n, r, h1, h7, hrf, hS⟩ := s59 xs hx (by omega)
    obtain ⟨o, ho, hol, hoo, hsh, hro⟩ := law_orders h1 h7 hrf
    rw [← ho] at hS
    have hon := isO_in hoo
    obtain ⟨b1, σ1, c1, r1, o1, e1⟩ := FnS.row hS (σ := (⟨[], 0⟩ : St)) (args := [.lst xs.length (byts xs)]) rfl
    -- choices
    have hC := o49 o o.length rfl (by omega)
    have hcr : choR o = some (cho o (o.length - 1) (iotaF 0 o.length) []) := by unfold choR; rw [if_pos hoo]
    rw [hcr] at hC
    have hcl : (cho o (o.length - 1) (iotaF 0 o.length) []).length = n - 1 := by rw [cho_length, hol]; simp
    obtain ⟨b2, σ2, c2, r2, o2, e2⟩ := FnO.row hC (σ := σ1) (args := [.sl b1 0 o.length o.length]) (mapO_cons (r1.frz rfl (Nat.le_refl _)) rfl)
    generalize cho o (o.length - 1) (iotaF 0 o.length) [] = cs at *
    have hSh := o29 cs (by omega)
    rw [hsh] at hSh
    obtain ⟨b3, σ3, c3, r3, o3, e3⟩ := FnO.row hSh (σ := σ2) (args := [.sl b2 0 cs.length cs.length]) (mapO_cons (r2.frz rfl (Nat.le_refl _)) rfl)
    have r1a := (r1.old o2).old o3
    -- rank
    have c4 := v47 o o.length rfl (by omega) σ3 [.sl b1 0 o.length o.length] (mapO_cons (r1a.frz rfl (Nat.le_refl _)) rfl)
    rw [if_pos hoo] at c4
    have hrk := rankG_lt o o.length 0
    rw [hol] at hrk
    have hf7 := fac_le7 h7
    have hfp := fac_pos n
    have hOA := o31 n (rankG o n 0 : Nat)
    have hOR : ordR n (rankG o n 0 : Nat) = some o := by
      unfold ordR
      rw [if_pos ⟨inR_iff.2 ⟨by omega, by omega⟩, inR_iff.2 ⟨by omega, by rw [Int.toNat_natCast]; omega⟩⟩, Int.toNat_natCast, Int.toNat_natCast, hro]
    rw [hOR] at hOA
    obtain ⟨b5, σ5, c5, r5, o5, e5⟩ := FnO.row hOA (σ := σ3) (args := [.int .i64 n, .int .i64 (rankG o n 0 : Nat)]) rfl
    have r1b := r1a.old o5
    have r3b := r3.old o5
    have c6 := v60 o o o.length o.length rfl rfl (by omega) σ5 [.sl b3 0 o.length o.length, .sl b1 0 o.length o.length] (mapO_cons (r3b.frz rfl (Nat.le_refl _)) (mapO_cons (r1b.frz rfl (Nat.le_refl _)) rfl))
    have c7 := v60 o o o.length o.length rfl rfl (by omega) σ5 [.sl b5 0 o.length o.length, .sl b1 0 o.length o.length] (mapO_cons (r5.frz rfl (Nat.le_refl _)) (mapO_cons (r1b.frz rfl (Nat.le_refl _)) rfl))
    simp only [decide_true] at c6 c7
    have c8 := c61 n (by omega) σ5
    -- choices that are less
    obtain ⟨σ9, b9, ls, c9, r9, hll, hle, n9, k9⟩ := a18 ys hy (.sl b1 0 n n) (.int .i64 n) (n - 1) 0 [] σ5.n (σ5.push ⟨ints [], 1, false⟩) (by omega) rfl (by omega) Row.push
    rw [List.nil_append] at r9
    rw [Nat.zero_add] at c9
    have hsat := sat_all h1 h7 hll hle
    unfold satOk at hsat
    have hb1l := r1b.lt
    have r1c : Row σ9 b1 o := r1b.keep (by simp only [n_push] at n9; omega) (by rw [k9 b1 (by omega) (by simp only [n_push]; omega), get_push_lt hb1l])
    cases hro2 : shuf 1 n ls 0 (iotaF 0 n) with
    | none => rw [hro2] at hsat; cases hsat
    | some rd =>
      rw [hro2] at hsat
      simp only [Bool.and_eq_true] at hsat
      obtain ⟨⟨hrd1, hrd2⟩, hrd3⟩ := hsat
      have hrl := Nat.eq_of_beq_eq_true hrd2
      have hcy1 := Nat.eq_of_beq_eq_true hrd3
      have hCB := o27 ls (by omega)
      have : shufR 1 ls = some rd := by
        unfold shufR
        rw [if_pos (by omega), hll, show n - 1 + 1 = n by omega]
        exact hro2
      rw [this] at hCB
      obtain ⟨b10, σ10, c10, r10, o10, e10⟩ := FnO.row hCB (σ := σ9) (args := [.sl b9 0 ls.length ls.length]) (mapO_cons (r9.frz rfl (Nat.le_refl _)) rfl)
      have hCY1 := o51 rd rd.length rfl (by omega)
      have hcr1 : cycR rd = some (cyc rd) := by unfold cycR; rw [if_pos hrd1]
      rw [hcr1] at hCY1
      obtain ⟨σ11, b11, bs11, c11, r11, o11, f11⟩ := hCY1 σ10 [.sl b10 0 rd.length rd.length] (mapO_cons (r10.frz rfl (Nat.le_refl _)) rfl)
      have r1d := (r1c.old o10).old o11
      have hCY2 := o51 o o.length rfl (by omega)
      have hcr2 : cycR o = some (cyc o) := by unfold cycR; rw [if_pos hoo]
      rw [hcr2] at hCY2
      obtain ⟨σ12, b12, bs12, c12, r12, o12, f12⟩ := hCY2 σ11 [.sl b1 0 o.length o.length] (mapO_cons (r1d.frz rfl (Nat.le_refl _)) rfl)
      have r1e := r1d.old o12
      obtain ⟨s1, s2, s3⟩ := cyc_small hoo
      obtain ⟨q1, q2⟩ := cyc_ok hoo
      have c13 := l18 o n hol.symm (by omega) (cyc o) (cyc o).length rfl s1 (fun c hc => ⟨(q1 c hc).1, s2 c hc⟩) b12 b1 bs12 σ12 r1e r12 (cyc o).length 0 0 (by omega) (by omega)
      rw [List.drop_zero, q2, hol, Nat.zero_add, decide_eq_true rfl] at c13
      refine ⟨σ12, ?_⟩
      rw [← c13]
      rw [hll] at c10
      rw [hrl] at c10 c11
      rw [hcy1] at c11
      rw [hcl] at c2 c3
      rw [hol] at c1 c2 c3 c4 c5 c6 c7 c12
      have hw1 : wrapA .i64 ((n : Int) - 1) = ((n - 1 : Nat) : Int) := by rw [wrapA_id (by omega) (by omega)]; omega
      have hrkf : ((rankG o n 0 : Nat) : Int) < (fac n : Int) := by omega
      have e15 := fun σ => bn22 σ
      generalize rankG o n 0 = rk at *
      generalize fac n = fn at *
      generalize (cyc o).length = nc at *
      generalize n - 1 = n1 at *
      simp only [show ((0 : Nat) : Int) = 0 from rfl] at c9 c13 ⊢
      clear hS hC hSh hOA hCB hCY1 hCY2 c13
      rw [fi18] at c9 ⊢
      simp (maxSteps := 1000000) (disch := omega) [xI_seq, xI_region, xI_ret, regA, regOps, runOps, opStep, wantedA, opA, evo, evos, calleeA, lk, nif_eq, putE, paramsE, valS, val2, keepE, restrict, finA, resA, binA, binInt, ofConst, ofConst1, loadA, TK.isAgg, asVar, unA, builtinA, lenOpA, lenA, indexAddrA, evPairs, storeA, AV.cellsOf, pairsOf, xI_nil, binBool, gcE, evOpt, runTr, pairsOk, pairOk, sameVal, AV.eqv, lastOf, lstAt, eqvs, boundA, indexA, regF, twoOf, prsOf, memI, runTrF, selF, runTr2, freshOp, scals, AV.scal, xI_block, xI_loopH, xI_condM, xI_exitM, xI_skip, xI_blk, exitA, List.getElem?_cons_zero, List.getElem?_cons_succ, List.getElem?_toArray, List.getElem?_nil, ileb_t, ileb_f, ieqb_t, ieqb_f, inB_t, wrapA_id, lp_read, ieqb_self, Nat.blt_eq, cond_true, cond_false, ty2, ty3, ty4, ty22, ty40, eK18_0_0, eK18_1_2, eK18_2_4, eK18_2_3, eK18_2_2, hL, c1, c2, c3, c4, c5, c6, c7, c8, hw1, e15]
      refine c9.trans ?_
      simp only [R18_0_0, b18, Try.f18, Option.getD, fstC, sndC, bodyC, thnC, elsC]
      simp (maxSteps := 1000000) (disch := omega) [xI_seq, xI_region, xI_ret, regA, regOps, runOps, opStep, wantedA, opA, evo, evos, calleeA, lk, nif_eq, putE, paramsE, valS, val2, keepE, restrict, finA, resA, binA, binInt, ofConst, ofConst1, loadA, TK.isAgg, asVar, unA, builtinA, lenOpA, lenA, indexAddrA, evPairs, storeA, AV.cellsOf, pairsOf, xI_nil, binBool, gcE, evOpt, runTr, pairsOk, pairOk, sameVal, AV.eqv, lastOf, lstAt, eqvs, boundA, indexA, regF, twoOf, prsOf, memI, runTrF, selF, runTr2, freshOp, scals, AV.scal, xI_block, xI_loopH, xI_condM, xI_exitM, xI_skip, xI_blk, exitA, List.getElem?_cons_zero, List.getElem?_cons_succ, List.getElem?_toArray, List.getElem?_nil, ileb_t, ileb_f, ieqb_t, ieqb_f, inB_t, wrapA_id, lp_read, ieqb_self, Nat.blt_eq, cond_true, cond_false, ty2, ty3, ty4, ty22, ty40, eK18_0_0, eK18_1_2, eK18_2_4, eK18_2_3, eK18_2_2, c10, c11, c12]
      rfl

end Go.Proofs.Ytaniaeefijgaiaa
