/- Contracts and law: machines of registers. Nothing is claimed here; no condition. -/
import Derived.Test.YtonnbgjbohbibaaEm
import Derived.Test.YtonnbgjbohbibaaEg
namespace Go.Proofs.Ytonnbgjbohbibaa
open Go Go.Abs
set_option linter.unusedSimpArgs false
set_option linter.unusedVariables false
open Go.Wd
/-- A machine in the heap above the first two blocks, whose rows are none or a row of their own. -/
def MV (σ : St) (q : Nat) (w o : Int) (l : List Nat) (v : AV) : Prop := q < σ.n ∧ 2 ≤ q ∧ σ.get q = some ⟨[.int .i64 w, v, .int .i64 o], 3, false⟩ ∧ ((v = .nilS ∧ l = []) ∨ ∃ b, 2 ≤ b ∧ q ≠ b ∧ v = .sl b 0 l.length l.length ∧ Row σ b (nints l))
theorem append_nil {T : Tab} {σ : St} {x : Int} {st e : TypeId} (ht : T.ty st = some ⟨.slice e, 1, 24, [.nilS]⟩) (he : T.ty e = some ⟨.int .i64, 1, 8, [.int .i64 0]⟩) :
    appendA T (σ.push ⟨[.int .i64 x], 1, false⟩) st st .nilS (.sl σ.n 0 1 1) = some (.sl (σ.n + 1) 0 1 1, (σ.push ⟨[.int .i64 x], 1, false⟩).push ⟨[.int .i64 x], 1, true⟩) := by
  unfold appendA
  have h1 : firstA (σ.push ⟨[.int .i64 x], 1, false⟩) 1 1 (.sl σ.n 0 1 1) = some [.int .i64 x] := by
    simp [firstA, get_push_same, getCells, dropN, takeN]
  simp only [ht, he, lenA, h1, allOne, AV.one]
  simp [n_push]
theorem MV.app {T : Tab} {σ : St} {q : Nat} {w o : Int} {l : List Nat} {x : Nat} {v : AV} {st e : TypeId} (ht : T.ty st = some ⟨.slice e, 1, 24, [.nilS]⟩) (he : T.ty e = some ⟨.int .i64, 1, 8, [.int .i64 0]⟩) (h : MV σ q w o l v) (hs : l.length < 1000000) :
    ∃ b' σ1 σ', appendA T (σ.push ⟨[.int .i64 (x : Int)], 1, false⟩) st st v (.sl σ.n 0 1 1) = some (.sl b' 0 (l.length + 1) (l.length + 1), σ1) ∧ storeCellsA σ1 q 1 [.sl b' 0 (l.length + 1) (l.length + 1)] = some σ' ∧ MV σ' q w o (l ++ [x]) (.sl b' 0 (l.length + 1) (l.length + 1)) ∧ Row σ' b' (nints (l ++ [x])) ∧ 2 ≤ b' ∧ ∀ c, c < 2 → σ'.get c = σ.get c := by
  obtain ⟨h1, h2, h3, h4⟩ := h
  have fin : ∀ σ1 : St, σ1.n = σ.n + 2 → σ1.get q = some ⟨[.int .i64 w, v, .int .i64 o], 3, false⟩ → Row σ1 (σ.n + 1) (nints (l ++ [x])) → (∀ c, c < 2 → σ1.get c = σ.get c) →
      ∃ σ', storeCellsA σ1 q 1 [.sl (σ.n + 1) 0 (l.length + 1) (l.length + 1)] = some σ' ∧ MV σ' q w o (l ++ [x]) (.sl (σ.n + 1) 0 (l.length + 1) (l.length + 1)) ∧ Row σ' (σ.n + 1) (nints (l ++ [x])) ∧ ∀ c, c < 2 → σ'.get c = σ.get c := by
    intro σ1 hn hq hr hc
    have hr' : Row (σ1.set q ⟨[.int .i64 w, .sl (σ.n + 1) 0 (l.length + 1) (l.length + 1), .int .i64 o], 3, false⟩) (σ.n + 1) (nints (l ++ [x])) := hr.keep (Nat.le_refl _) (get_set_ne (by omega))
    refine ⟨σ1.set q ⟨[.int .i64 w, .sl (σ.n + 1) 0 (l.length + 1) (l.length + 1), .int .i64 o], 3, false⟩, ?_, ⟨?_, h2, get_set_eq hq, .inr ⟨σ.n + 1, by omega, by omega, by simp, hr'⟩⟩, hr', ?_⟩
    · simp [storeCellsA, hq, allOne, AV.one, putN, overN]
    · rw [n_set, hn]; omega
    · intro c hc2
      rw [get_set_ne (by omega)]; exact hc c hc2
  rcases h4 with ⟨rfl, rfl⟩ | ⟨b, hb2, hbq, rfl, hr⟩
  · obtain ⟨σ', g1, g2, g3, g4⟩ := fin ((σ.push ⟨[.int .i64 (x : Int)], 1, false⟩).push ⟨[.int .i64 (x : Int)], 1, true⟩) rfl (by rw [get_push_lt (by rw [n_push]; omega), get_push_lt h1]; exact h3) ⟨true, get_push_same, Nat.lt_succ_self _⟩ (fun c hc => by rw [get_push_lt (by rw [n_push]; omega), get_push_lt (by omega)])
    exact ⟨σ.n + 1, _, σ', append_nil ht he, g1, g2, g3, by omega, g4⟩
  · obtain ⟨σ1, ha, hr1, hn, hu⟩ := nints_append_row (x := x) ht he hr (n := l.length) rfl (by omega)
    obtain ⟨σ', g1, g2, g3, g4⟩ := fin σ1 hn ((hu q hbq h1).trans h3) hr1 (fun c hc => hu c (by omega) (by omega))
    exact ⟨σ.n + 1, σ1, σ', ha, g1, g2, g3, by omega, g4⟩
theorem MV.cells {σ : St} {q : Nat} {w o : Int} {l : List Nat} {v : AV} (h : MV σ q w o l v) : cellsAt σ (.ptr q 1) 1 = some [v] := by
  obtain ⟨_, _, h3, _⟩ := h
  simp [cellsAt, h3, getCells, takeN, dropN]
theorem MV.cellsP {σ : St} {q : Nat} {w o : Int} {l : List Nat} {v : AV} (h : MV σ q w o l v) (x : Blk) : cellsAt (σ.push x) (.ptr q 1) 1 = some [v] := by
  obtain ⟨h1, _, h3, _⟩ := h
  simp [cellsAt, get_push_lt h1, h3, getCells, takeN, dropN]
theorem MV.all {σ : St} {q : Nat} {w o : Int} {l : List Nat} {v : AV} (h : MV σ q w o l v) : cellsAt σ (.ptr q 0) 3 = some [.int .i64 w, v, .int .i64 o] := by
  obtain ⟨_, _, h3, _⟩ := h
  simp [cellsAt, h3, getCells, takeN, dropN]
theorem MV.eqv {σ : St} {q : Nat} {w o : Int} {l : List Nat} {v : AV} (h : MV σ q w o l v) : v.eqv v = true := by
  obtain ⟨_, _, _, h4⟩ := h
  rcases h4 with ⟨rfl, _⟩ | ⟨b, _, _, rfl, _⟩ <;> simp [AV.eqv]
/-- The result's cell. -/
theorem res3 {σ : St} {x y z : AV} {a b c : AV} (h : σ.get 1 = some ⟨[a, b, c], 3, false⟩) (ho : allOne [x, y, z] = true) : ∃ σ', storeCellsA σ 1 0 [x, y, z] = some σ' ∧ cellsAt σ' (.ptr 1 0) 3 = some [x, y, z] ∧ ∀ d l, d ≠ 1 → Row σ d l → Row σ' d l := by
  refine ⟨σ.set 1 ⟨[x, y, z], 3, false⟩, ?_, ?_, fun d l hd hr => hr.keep (Nat.le_refl _) (get_set_ne (fun e => hd e.symm))⟩
  · simp [storeCellsA, h, ho, putN, overN]
  · simp [cellsAt, get_set_eq h, getCells, takeN, dropN]
theorem units1 (j : Nat) : units 1 j ++ [pw (j + 1)] = units 1 (j + 1) := by rw [units_append]; simp [pw, Nat.add_comm]

noncomputable def b35 : Code := Try.f35.body.getD .skip
noncomputable def B35_0 : Code := (bodyC (bodyC (sndC (fstC (sndC (sndC (sndC b35)))))))
noncomputable def K35_0 : List It := .lp B35_0 :: .blk 0 :: .code (sndC (sndC (sndC (sndC b35)))) :: []
theorem xl35_0 {fi : FI} {env : Env} {σ : St} : exI TT fi K35_0 env σ = exI TT fi (.code B35_0 :: K35_0) env σ := by unfold K35_0; exact xI_lp
noncomputable def R35_0_0 : List It := .code (sndC (sndC (sndC (sndC b35)))) :: []
theorem eK35_0_0 : exitA 0 K35_0 = some R35_0_0 := rfl
theorem l35 (k t q : Nat) (hk : k ≤ 15) (ht : t < 65536) : ∀ (m j : Nat) (v : AV) (σ : St), j + m = k → MV σ q ((k + 1 : Nat) : Int) 1 (units 1 j) v → σ.get 0 = some ⟨[.int .i64 ((k + 1 : Nat) : Int), .int .i64 t], 2, false⟩ → σ.get 1 = some ⟨[.int .i64 0, .nilS, .int .i64 0], 3, false⟩ →
    ∃ σ' b', exI TT (FI.of Try.f35 (TT.an 35)) K35_0 [(1, .ptr 0 0), (2, .ptr 1 0), (4, .ptr q 0), (5, .int .i64 ((j : Int) + 1))] σ = some (.tup [.agg [.int .i64 ((k + 1 : Nat) : Int), .sl b' 0 (k + 1) (k + 1), .int .i64 1], .bool true], σ') ∧ Row σ' b' (nints (units 1 k ++ [t])) := by
  intro m
  induction m with
  | zero =>
    intro j v σ hj hm h0 h1
    obtain rfl : j = k := by omega
    obtain ⟨b1, σ1, σ2, a1, a2, a3, a4, a5, a6⟩ := MV.app (x := t) ty33 ty2 hm (by simp [units_length]; omega)
    simp only [units_length] at a1 a2 a3
    have hc := hm.cells
    have hall := a3.all
    obtain ⟨σ3, b1', b2', b3'⟩ := res3 (x := .int .i64 ((j + 1 : Nat) : Int)) (y := .sl b1 0 (j + 1) (j + 1)) (z := .int .i64 1) ((a6 1 (by decide)).trans h1) rfl
    have hcw : cellsAt σ (.ptr 0 0) 1 = some [.int .i64 ((j + 1 : Nat) : Int)] := by simp [cellsAt, h0, getCells, takeN, dropN]
    have hct : cellsAt σ (.ptr 0 1) 1 = some [.int .i64 t] := by simp [cellsAt, h0, getCells, takeN, dropN]
    refine ⟨σ3, b1, ?_, b3' _ _ (by omega) a4⟩
    generalize hW : ((j + 1 : Nat) : Int) = W at *
    have hlt : ¬ ((j : Int) + 1 < W) := by omega
    have hlt2 : W ≤ (j : Int) + 1 := by omega
    rw [fi35]
    rw [xl35_0]
    simp only [B35_0, b35, Try.f35, Option.getD, fstC, sndC, bodyC, thnC, elsC]
    simp [xI_seq, xI_region, xI_ret, regA, regOps, runOps, opStep, wantedA, opA, evo, evos, calleeA, lk, nif_eq, putE, paramsE, valS, val2, keepE, restrict, finA, resA, binA, binInt, ofConst, ofConst1, loadA, TK.isAgg, asVar, unA, builtinA, lenOpA, lenA, ileb_cast, ileb_eq, ieqb_dec, indexAddrA, inB_dec, evPairs, storeA, AV.cellsOf, pairsOf, xI_nil, binBool, gcE, evOpt, xI_block, xI_loopH, xI_condM, xI_exitM, xI_skip, xI_blk, exitA, ty2, ty4, ty33, ty41, ty49, ty73, eK35_0_0, fieldAddrA, allOne, AV.one, ty2, ty33, ty41, ty49, hcw, hlt, hlt2]
    simp only [R35_0_0, b35, Try.f35, Option.getD, fstC, sndC, bodyC, thnC, elsC]
    simp [xI_seq, xI_region, xI_ret, regA, regOps, runOps, opStep, wantedA, opA, evo, evos, calleeA, lk, nif_eq, putE, paramsE, valS, val2, keepE, restrict, finA, resA, binA, binInt, ofConst, ofConst1, loadA, TK.isAgg, asVar, unA, builtinA, lenOpA, lenA, ileb_cast, ileb_eq, ieqb_dec, indexAddrA, inB_dec, evPairs, storeA, AV.cellsOf, pairsOf, xI_nil, binBool, gcE, evOpt, xI_block, xI_loopH, xI_condM, xI_exitM, xI_skip, xI_blk, exitA, ty2, ty4, ty33, ty41, ty49, ty73, eK35_0_0, fieldAddrA, allOne, AV.one, ty2, ty33, ty41, ty49, hc, hct, bs1, a1, a2, hall, b1', b2']
  | succ m ih =>
    intro j v σ hj hm h0 h1
    obtain ⟨b1, σ1, σ2, a1, a2, a3, a4, a5, a6⟩ := MV.app (x := pw (j + 1)) ty33 ty2 hm (by simp [units_length]; omega)
    rw [units1] at a3
    simp only [units_length] at a1 a2 a3
    have hc := hm.cells
    have hcp := hm.cellsP
    have hqv := hm.eqv
    obtain ⟨σ', b', g1, g2⟩ := ih (j + 1) (.sl b1 0 (j + 1) (j + 1)) σ2 (by omega) a3 ((a6 0 (by decide)).trans h0) ((a6 1 (by decide)).trans h1)
    have hcw : cellsAt σ (.ptr 0 0) 1 = some [.int .i64 ((k + 1 : Nat) : Int)] := by simp [cellsAt, h0, getCells, takeN, dropN]
    refine ⟨σ', b', ?_, g2⟩
    generalize hW : ((k + 1 : Nat) : Int) = W at *
    have hlt : (j : Int) + 1 < W := by omega
    have hlt2 : ¬ W ≤ (j : Int) + 1 := by omega
    have hlt3 : j < k := by omega
    have hlt4 : ¬ k ≤ j := by omega
    have hw := wrapS (n := j) (by omega)
    have hw2 := wrapS (n := j + 1) (by omega)
    have e1 := sh_1 (b := j + 1) (by omega)
    have e2 : wrapA .u64 ((j : Int) + 1) = (j : Int) + 1 := by have := n_wrapu (a := j + 1) (by omega); simpa using this
    have e3 : ((j : Int) + 1).toNat = j + 1 := by omega
    have e4 : ¬ ((j : Int) + 1 < 0) := by omega
    have e5 : (0 : Int) ≤ (j : Int) + 1 := by omega
    simp only [Int.natCast_add, show ((1 : Nat) : Int) = 1 from rfl] at g1 hw2
    rw [fi35] at g1 ⊢
    rw [xl35_0]
    simp only [B35_0, b35, Try.f35, Option.getD, fstC, sndC, bodyC, thnC, elsC]
    simp [xI_seq, xI_region, xI_ret, regA, regOps, runOps, opStep, wantedA, opA, evo, evos, calleeA, lk, nif_eq, putE, paramsE, valS, val2, keepE, restrict, finA, resA, binA, binInt, ofConst, ofConst1, loadA, TK.isAgg, asVar, unA, builtinA, lenOpA, lenA, ileb_cast, ileb_eq, ieqb_dec, indexAddrA, inB_dec, evPairs, storeA, AV.cellsOf, pairsOf, xI_nil, binBool, gcE, evOpt, xI_block, xI_loopH, xI_condM, xI_exitM, xI_skip, xI_blk, exitA, ty2, ty4, ty33, ty41, ty49, ty73, eK35_0_0, runTr, pairsOk, pairOk, lstAt, lastOf, sameVal, AV.eqv, eqvs, eqvs_ints, regOps, blt_dec, cond_true, cond_false, fieldAddrA, allOne, AV.one, ty2, ty33, ty41, ty49, ty73, hcw, hlt, hlt2, hlt3, hlt4, hw, hw2, e1, e2, e3, e4, e5, convA, hc, hcp, hqv, bs1, a1, a2]
    simpa using g1

noncomputable def b37 : Code := Try.f37.body.getD .skip
noncomputable def B37_0 : Code := (bodyC (bodyC (sndC (fstC (sndC (sndC (sndC b37)))))))
noncomputable def K37_0 : List It := .lp B37_0 :: .blk 0 :: .code (sndC (sndC (sndC (sndC b37)))) :: []
theorem xl37_0 {fi : FI} {env : Env} {σ : St} : exI TT fi K37_0 env σ = exI TT fi (.code B37_0 :: K37_0) env σ := by unfold K37_0; exact xI_lp
noncomputable def R37_0_0 : List It := .code (sndC (sndC (sndC (sndC b37)))) :: []
theorem eK37_0_0 : exitA 0 K37_0 = some R37_0_0 := rfl
theorem l37 (k t q : Nat) (hk : k ≤ 15) (ht : t < 65536) : ∀ (m j : Nat) (v : AV) (σ : St), j + m = k → MV σ q ((k + 1 : Nat) : Int) 1 (units 1 j) v → σ.get 0 = some ⟨[.int .i64 ((k + 1 : Nat) : Int), .int .i64 t], 2, false⟩ → σ.get 1 = some ⟨[.int .i64 0, .nilS, .int .i64 0], 3, false⟩ →
    ∃ σ' b', exI TT (FI.of Try.f37 (TT.an 37)) K37_0 [(1, .ptr 0 0), (2, .ptr 1 0), (4, .ptr q 0), (20, .int .i64 k), (21, .int .i64 j)] σ = some (.tup [.agg [.int .i64 ((k + 1 : Nat) : Int), .sl b' 0 (k + 1) (k + 1), .int .i64 1], .bool true], σ') ∧ Row σ' b' (nints (units 1 k ++ [t])) := by
  intro m
  induction m with
  | zero =>
    intro j v σ hj hm h0 h1
    obtain rfl : j = k := by omega
    obtain ⟨b1, σ1, σ2, a1, a2, a3, a4, a5, a6⟩ := MV.app (x := t) ty33 ty2 hm (by simp [units_length]; omega)
    simp only [units_length] at a1 a2 a3
    have hc := hm.cells
    have hall := a3.all
    obtain ⟨σ3, b1', b2', b3'⟩ := res3 (x := .int .i64 ((j + 1 : Nat) : Int)) (y := .sl b1 0 (j + 1) (j + 1)) (z := .int .i64 1) ((a6 1 (by decide)).trans h1) rfl
    have hcw : cellsAt σ (.ptr 0 0) 1 = some [.int .i64 ((j + 1 : Nat) : Int)] := by simp [cellsAt, h0, getCells, takeN, dropN]
    have hct : cellsAt σ (.ptr 0 1) 1 = some [.int .i64 t] := by simp [cellsAt, h0, getCells, takeN, dropN]
    refine ⟨σ3, b1, ?_, b3' _ _ (by omega) a4⟩
    generalize hW : ((j + 1 : Nat) : Int) = W at *
    have hlt : ¬ ((j : Int) + 1 < W) := by omega
    have hlt2 : W ≤ (j : Int) + 1 := by omega
    rw [fi37]
    rw [xl37_0]
    simp only [B37_0, b37, Try.f37, Option.getD, fstC, sndC, bodyC, thnC, elsC]
    simp [xI_seq, xI_region, xI_ret, regA, regOps, runOps, opStep, wantedA, opA, evo, evos, calleeA, lk, nif_eq, putE, paramsE, valS, val2, keepE, restrict, finA, resA, binA, binInt, ofConst, ofConst1, loadA, TK.isAgg, asVar, unA, builtinA, lenOpA, lenA, ileb_cast, ileb_eq, ieqb_dec, indexAddrA, inB_dec, evPairs, storeA, AV.cellsOf, pairsOf, xI_nil, binBool, gcE, evOpt, xI_block, xI_loopH, xI_condM, xI_exitM, xI_skip, xI_blk, exitA, ty2, ty4, ty33, ty41, ty49, eK37_0_0, fieldAddrA, allOne, AV.one, ty2, ty33, ty41, ty49, hcw, hlt, hlt2]
    simp only [R37_0_0, b37, Try.f37, Option.getD, fstC, sndC, bodyC, thnC, elsC]
    simp [xI_seq, xI_region, xI_ret, regA, regOps, runOps, opStep, wantedA, opA, evo, evos, calleeA, lk, nif_eq, putE, paramsE, valS, val2, keepE, restrict, finA, resA, binA, binInt, ofConst, ofConst1, loadA, TK.isAgg, asVar, unA, builtinA, lenOpA, lenA, ileb_cast, ileb_eq, ieqb_dec, indexAddrA, inB_dec, evPairs, storeA, AV.cellsOf, pairsOf, xI_nil, binBool, gcE, evOpt, xI_block, xI_loopH, xI_condM, xI_exitM, xI_skip, xI_blk, exitA, ty2, ty4, ty33, ty41, ty49, eK37_0_0, fieldAddrA, allOne, AV.one, ty2, ty33, ty41, ty49, hc, hct, bs1, a1, a2, hall, b1', b2']
  | succ m ih =>
    intro j v σ hj hm h0 h1
    obtain ⟨b1, σ1, σ2, a1, a2, a3, a4, a5, a6⟩ := MV.app (x := pw (j + 1)) ty33 ty2 hm (by simp [units_length]; omega)
    rw [units1] at a3
    simp only [units_length] at a1 a2 a3
    have hc := hm.cells
    have hcp := hm.cellsP
    have hqv := hm.eqv
    obtain ⟨σ', b', g1, g2⟩ := ih (j + 1) (.sl b1 0 (j + 1) (j + 1)) σ2 (by omega) a3 ((a6 0 (by decide)).trans h0) ((a6 1 (by decide)).trans h1)
    have hcw : cellsAt σ (.ptr 0 0) 1 = some [.int .i64 ((k + 1 : Nat) : Int)] := by simp [cellsAt, h0, getCells, takeN, dropN]
    refine ⟨σ', b', ?_, g2⟩
    generalize hW : ((k + 1 : Nat) : Int) = W at *
    have hlt : (j : Int) + 1 < W := by omega
    have hlt2 : ¬ W ≤ (j : Int) + 1 := by omega
    have hlt3 : j < k := by omega
    have hlt4 : ¬ k ≤ j := by omega
    have hw := wrapS (n := j) (by omega)
    have hw2 := wrapS (n := j + 1) (by omega)
    have e1 := sh_1 (b := j + 1) (by omega)
    have e2 : wrapA .u64 ((j : Int) + 1) = (j : Int) + 1 := by have := n_wrapu (a := j + 1) (by omega); simpa using this
    have e3 : ((j : Int) + 1).toNat = j + 1 := by omega
    have e4 : ¬ ((j : Int) + 1 < 0) := by omega
    have e5 : (0 : Int) ≤ (j : Int) + 1 := by omega
    simp only [Int.natCast_add, show ((1 : Nat) : Int) = 1 from rfl] at g1 hw2
    rw [fi37] at g1 ⊢
    rw [xl37_0]
    simp only [B37_0, b37, Try.f37, Option.getD, fstC, sndC, bodyC, thnC, elsC]
    simp [xI_seq, xI_region, xI_ret, regA, regOps, runOps, opStep, wantedA, opA, evo, evos, calleeA, lk, nif_eq, putE, paramsE, valS, val2, keepE, restrict, finA, resA, binA, binInt, ofConst, ofConst1, loadA, TK.isAgg, asVar, unA, builtinA, lenOpA, lenA, ileb_cast, ileb_eq, ieqb_dec, indexAddrA, inB_dec, evPairs, storeA, AV.cellsOf, pairsOf, xI_nil, binBool, gcE, evOpt, xI_block, xI_loopH, xI_condM, xI_exitM, xI_skip, xI_blk, exitA, ty2, ty4, ty33, ty41, ty49, eK37_0_0, runTr, pairsOk, pairOk, lstAt, lastOf, sameVal, AV.eqv, eqvs, eqvs_ints, regOps, blt_dec, cond_true, cond_false, fieldAddrA, allOne, AV.one, ty2, ty33, ty41, ty49, ty73, hcw, hlt, hlt2, hlt3, hlt4, hw, hw2, e1, e2, e3, e4, e5, convA, hc, hcp, hqv, bs1, a1, a2]
    simpa using g1

theorem o35 (w t : Int) : FnM TT 35 [.agg [.int .i64 w, .int .i64 t]] (regR w t) := by
  obtain ⟨σ, hσ⟩ : ∃ σ, ((⟨[], 0⟩ : St).push ⟨[.int .i64 w, .int .i64 t], 2, false⟩).push ⟨[.int .i64 0, .nilS, .int .i64 0], 3, false⟩ = σ := ⟨_, rfl⟩
  have g0 : σ.get 0 = some ⟨[.int .i64 w, .int .i64 t], 2, false⟩ := by subst hσ; rfl
  have hcw : cellsAt σ (.ptr 0 0) 1 = some [.int .i64 w] := by simp [cellsAt, g0, getCells, takeN, dropN]
  have hi := c84 w t σ 0 _ g0 rfl
  have g1 : σ.get 1 = some ⟨[.int .i64 0, .nilS, .int .i64 0], 3, false⟩ := by subst hσ; rfl
  have hn : σ.n = 2 := by subst hσ; rfl
  obtain ⟨σn, n1, n2, _⟩ := res3 (x := .int .i64 0) (y := .nilS) (z := .int .i64 0) g1 rfl
  cases hv : (vreg w t && !decide (w = 0)) with
  | false =>
    rw [regR_no hv]
    refine FnM.mkN fn35 rfl md35 ⟨σn, ?_⟩
    rw [fi35]
    cases h1 : vreg w t with
    | false =>
      rw [h1] at hi
      simp [xI_seq, xI_region, xI_ret, regA, regOps, runOps, opStep, wantedA, opA, evo, evos, calleeA, lk, nif_eq, putE, paramsE, valS, val2, keepE, restrict, finA, resA, binA, binInt, ofConst, ofConst1, loadA, TK.isAgg, asVar, unA, builtinA, lenOpA, lenA, ileb_cast, ileb_eq, ieqb_dec, indexAddrA, inB_dec, evPairs, storeA, AV.cellsOf, pairsOf, xI_nil, binBool, gcE, evOpt, xI_block, xI_loopH, xI_condM, xI_exitM, xI_skip, xI_blk, exitA, ty2, ty4, ty33, ty41, ty49, ty73, eK35_0_0, fieldAddrA, buildA, sizesOf, fillA, putCells, allOne, AV.one, n_push, ty2, ty33, ty41, ty49, hσ, hi, n1, n2]
    | true =>
      rw [h1] at hi hv
      have hw0 : w = 0 := by simpa using hv
      subst hw0
      simp [xI_seq, xI_region, xI_ret, regA, regOps, runOps, opStep, wantedA, opA, evo, evos, calleeA, lk, nif_eq, putE, paramsE, valS, val2, keepE, restrict, finA, resA, binA, binInt, ofConst, ofConst1, loadA, TK.isAgg, asVar, unA, builtinA, lenOpA, lenA, ileb_cast, ileb_eq, ieqb_dec, indexAddrA, inB_dec, evPairs, storeA, AV.cellsOf, pairsOf, xI_nil, binBool, gcE, evOpt, xI_block, xI_loopH, xI_condM, xI_exitM, xI_skip, xI_blk, exitA, ty2, ty4, ty33, ty41, ty49, ty73, eK35_0_0, fieldAddrA, buildA, sizesOf, fillA, putCells, allOne, AV.one, n_push, ty2, ty33, ty41, ty49, hσ, hi, hcw, n1, n2]
  | true =>
    obtain ⟨k, m, rfl, rfl, hk, hm⟩ := reg_nat hv
    rw [regR_yes hv]
    simp only [Bool.and_eq_true] at hv
    rw [hv.1] at hi
    have hw0 : ¬ ((k + 1 : Nat) : Int) = 0 := by omega
    obtain ⟨σ1, hσ1⟩ : ∃ σ1, σ.push ⟨ints [], 1, false⟩ = σ1 := ⟨_, rfl⟩
    have hn1 : σ1.n = 3 := by subst hσ1; rw [n_push, hn]
    have r1 : Row σ1 2 (nints []) := by subst hσ1; rw [← hn]; exact Row.push
    obtain ⟨σ2, s2, n2', q2, o2⟩ := boxed σ1 (.int .i64 0) .nilS (.int .i64 0) (.int .i64 ((k + 1 : Nat) : Int)) (.sl 2 0 0 0) (.int .i64 1) rfl
    rw [hn1] at s2 n2' q2
    have g0' : σ2.get 0 = some ⟨[.int .i64 ((k + 1 : Nat) : Int), .int .i64 m], 2, false⟩ := by rw [o2.2 0 (by omega), ← g0]; subst hσ1; exact get_push_lt (by omega)
    have g1' : σ2.get 1 = some ⟨[.int .i64 0, .nilS, .int .i64 0], 3, false⟩ := by rw [o2.2 1 (by omega), ← g1]; subst hσ1; exact get_push_lt (by omega)
    have g3' : σ2.get 3 = some ⟨[.int .i64 ((k + 1 : Nat) : Int), .sl 2 0 0 0, .int .i64 1], 3, false⟩ := by
      have s2' := s2
      simp only [storeCellsA, hn1 ▸ get_push_same (σ := σ1), allOne, AV.one, putN, overN, Bool.and_self] at s2'
      cases s2'
      rw [get_set_eq (hn1 ▸ get_push_same (σ := σ1))]
    have hmv : MV σ2 3 ((k + 1 : Nat) : Int) 1 (units 1 0) (.sl 2 0 0 0) := ⟨by omega, by omega, g3', .inr ⟨2, by omega, by omega, rfl, r1.old o2⟩⟩
    obtain ⟨σ', b', e1, q, e2, _⟩ := l35 k m 3 hk hm k 0 _ σ2 (by omega) hmv g0' g1'
    refine FnM.mkS fn35 rfl md35 ⟨σ', b', q, ?_, e2⟩
    rw [nints_length, show (units 1 k ++ [m]).length = k + 1 by simp [units_length], ← e1, fi35]
    have hcw' : cellsAt σ (.ptr 0 0) 1 = some [.int .i64 ((k + 1 : Nat) : Int)] := hcw
    generalize ((k + 1 : Nat) : Int) = W at *
    simp [xI_seq, xI_region, xI_ret, regA, regOps, runOps, opStep, wantedA, opA, evo, evos, calleeA, lk, nif_eq, putE, paramsE, valS, val2, keepE, restrict, finA, resA, binA, binInt, ofConst, ofConst1, loadA, TK.isAgg, asVar, unA, builtinA, lenOpA, lenA, ileb_cast, ileb_eq, ieqb_dec, indexAddrA, inB_dec, evPairs, storeA, AV.cellsOf, pairsOf, xI_nil, binBool, gcE, evOpt, xI_block, xI_loopH, xI_condM, xI_exitM, xI_skip, xI_blk, exitA, ty2, ty4, ty33, ty41, ty49, ty73, eK35_0_0, fieldAddrA, buildA, sizesOf, fillA, putCells, allOne, AV.one, n_push, ty2, ty33, ty41, ty49, hσ, hi, hcw', hw0, bn0, hn, hσ1, hn1, s2]
    rfl

theorem o37 (w t : Int) : FnM TT 37 [.agg [.int .i64 w, .int .i64 t]] (regR w t) := by
  obtain ⟨σ, hσ⟩ : ∃ σ, ((⟨[], 0⟩ : St).push ⟨[.int .i64 w, .int .i64 t], 2, false⟩).push ⟨[.int .i64 0, .nilS, .int .i64 0], 3, false⟩ = σ := ⟨_, rfl⟩
  have g0 : σ.get 0 = some ⟨[.int .i64 w, .int .i64 t], 2, false⟩ := by subst hσ; rfl
  have hcw : cellsAt σ (.ptr 0 0) 1 = some [.int .i64 w] := by simp [cellsAt, g0, getCells, takeN, dropN]
  have hcw2 : cellsAt σ (.ptr 0 0) 2 = some [.int .i64 w, .int .i64 t] := by simp [cellsAt, g0, getCells, takeN, dropN]
  have hi : callI TT 85 [.agg [.int .i64 w, .int .i64 t]] σ = some (.bool (vreg w t), σ) := v85 w t σ _ rfl
  have g1 : σ.get 1 = some ⟨[.int .i64 0, .nilS, .int .i64 0], 3, false⟩ := by subst hσ; rfl
  have hn : σ.n = 2 := by subst hσ; rfl
  obtain ⟨σn, n1, n2, _⟩ := res3 (x := .int .i64 0) (y := .nilS) (z := .int .i64 0) g1 rfl
  cases hv : (vreg w t && !decide (w = 0)) with
  | false =>
    rw [regR_no hv]
    refine FnM.mkN fn37 rfl md37 ⟨σn, ?_⟩
    rw [fi37]
    cases h1 : vreg w t with
    | false =>
      rw [h1] at hi
      simp [xI_seq, xI_region, xI_ret, regA, regOps, runOps, opStep, wantedA, opA, evo, evos, calleeA, lk, nif_eq, putE, paramsE, valS, val2, keepE, restrict, finA, resA, binA, binInt, ofConst, ofConst1, loadA, TK.isAgg, asVar, unA, builtinA, lenOpA, lenA, ileb_cast, ileb_eq, ieqb_dec, indexAddrA, inB_dec, evPairs, storeA, AV.cellsOf, pairsOf, xI_nil, binBool, gcE, evOpt, xI_block, xI_loopH, xI_condM, xI_exitM, xI_skip, xI_blk, exitA, ty2, ty4, ty33, ty41, ty49, eK37_0_0, fieldAddrA, buildA, sizesOf, fillA, putCells, allOne, AV.one, n_push, ty2, ty33, ty41, ty49, hσ, hi, hcw2, n1, n2]
    | true =>
      rw [h1] at hi hv
      have hw0 : w = 0 := by simpa using hv
      subst hw0
      simp [xI_seq, xI_region, xI_ret, regA, regOps, runOps, opStep, wantedA, opA, evo, evos, calleeA, lk, nif_eq, putE, paramsE, valS, val2, keepE, restrict, finA, resA, binA, binInt, ofConst, ofConst1, loadA, TK.isAgg, asVar, unA, builtinA, lenOpA, lenA, ileb_cast, ileb_eq, ieqb_dec, indexAddrA, inB_dec, evPairs, storeA, AV.cellsOf, pairsOf, xI_nil, binBool, gcE, evOpt, xI_block, xI_loopH, xI_condM, xI_exitM, xI_skip, xI_blk, exitA, ty2, ty4, ty33, ty41, ty49, eK37_0_0, fieldAddrA, buildA, sizesOf, fillA, putCells, allOne, AV.one, n_push, ty2, ty33, ty41, ty49, hσ, hi, hcw, hcw2, n1, n2]
  | true =>
    obtain ⟨k, m, rfl, rfl, hk, hm⟩ := reg_nat hv
    rw [regR_yes hv]
    simp only [Bool.and_eq_true] at hv
    rw [hv.1] at hi
    have hw0 : ¬ ((k + 1 : Nat) : Int) = 0 := by omega
    obtain ⟨σ2, s2, n2', q2, o2⟩ := boxed σ (.int .i64 0) .nilS (.int .i64 0) (.int .i64 ((k + 1 : Nat) : Int)) .nilS (.int .i64 1) rfl
    rw [hn] at s2 n2' q2
    have g0' : σ2.get 0 = some ⟨[.int .i64 ((k + 1 : Nat) : Int), .int .i64 m], 2, false⟩ := by rw [o2.2 0 (by omega), ← g0]
    have g1' : σ2.get 1 = some ⟨[.int .i64 0, .nilS, .int .i64 0], 3, false⟩ := by rw [o2.2 1 (by omega), ← g1]
    have g3' : σ2.get 2 = some ⟨[.int .i64 ((k + 1 : Nat) : Int), .nilS, .int .i64 1], 3, false⟩ := by
      have s2' := s2
      simp only [storeCellsA, hn ▸ get_push_same (σ := σ), allOne, AV.one, putN, overN, Bool.and_self] at s2'
      cases s2'
      rw [get_set_eq (hn ▸ get_push_same (σ := σ))]
    have hmv : MV σ2 2 ((k + 1 : Nat) : Int) 1 (units 1 0) .nilS := ⟨by omega, by omega, g3', .inl ⟨rfl, rfl⟩⟩
    obtain ⟨σ', b', e1, q, e2, _⟩ := l37 k m 2 hk hm k 0 _ σ2 (by omega) hmv g0' g1'
    refine FnM.mkS fn37 rfl md37 ⟨σ', b', q, ?_, e2⟩
    rw [nints_length, show (units 1 k ++ [m]).length = k + 1 by simp [units_length], ← e1, fi37]
    have hcw' : cellsAt σ2 (.ptr 0 0) 1 = some [.int .i64 ((k + 1 : Nat) : Int)] := by simp [cellsAt, g0', getCells, takeN, dropN]
    have hw1 : wrapA .i64 (((k + 1 : Nat) : Int) - 1) = (k : Int) := by rw [wrapA_id (by omega) (by omega)]; omega
    generalize ((k + 1 : Nat) : Int) = W at *
    simp [xI_seq, xI_region, xI_ret, regA, regOps, runOps, opStep, wantedA, opA, evo, evos, calleeA, lk, nif_eq, putE, paramsE, valS, val2, keepE, restrict, finA, resA, binA, binInt, ofConst, ofConst1, loadA, TK.isAgg, asVar, unA, builtinA, lenOpA, lenA, ileb_cast, ileb_eq, ieqb_dec, indexAddrA, inB_dec, evPairs, storeA, AV.cellsOf, pairsOf, xI_nil, binBool, gcE, evOpt, xI_block, xI_loopH, xI_condM, xI_exitM, xI_skip, xI_blk, exitA, ty2, ty4, ty33, ty41, ty49, eK37_0_0, fieldAddrA, buildA, sizesOf, fillA, putCells, allOne, AV.one, n_push, ty2, ty33, ty41, ty49, hσ, hi, hcw, hcw2, hcw', hw0, hw1, hn, s2]
    rfl

set_option maxHeartbeats 2000000 in
theorem w6 (w : Int) (t : Int) : FnV TT 6 [.agg [.int .i64 w, .int .i64 t]] (.bool true) := by
  refine FnV.mk fn6 rfl md6 ?_ (fun _ => rfl) rfl
  rw [fi6]
  obtain ⟨σ0, hσ⟩ : ∃ σ0, (⟨[], 0⟩ : St).push ⟨[.int .i64 w, .int .i64 t], 2, false⟩ = σ0 := ⟨_, rfl⟩
  have hn0 : σ0.n = 1 := by subst hσ; rfl
  have p0 : cellsAt σ0 (.ptr 0 0) 2 = some [.int .i64 w, .int .i64 t] := by subst hσ; rfl
  have tr : ∀ σ : St, callI TT 36 [.agg [.int .i64 w, .int .i64 t]] σ = some (.agg [.int .i64 w, .int .i64 t], σ) := fun σ => v36 w t σ _ rfl
  have hS := o35 w t
  have hI := o37 w t
  cases hx : regR w t with
  | none =>
    rw [hx] at hS hI
    have cS : ∀ σ : St, callI TT 35 [.agg [.int .i64 w, .int .i64 t]] σ = some (.tup [.agg [.int .i64 0, .nilS, .int .i64 0], .bool false], σ) := fun σ => hS.nil rfl
    have cI : ∀ σ : St, callI TT 37 [.agg [.int .i64 w, .int .i64 t]] σ = some (.tup [.agg [.int .i64 0, .nilS, .int .i64 0], .bool false], σ) := fun σ => hI.nil rfl
    have cE : ∀ σ : St, callI TT 34 [.agg [.int .i64 0, .nilS, .int .i64 0], .agg [.int .i64 0, .nilS, .int .i64 0]] σ = some (.bool true, σ) := fun σ => v34n σ _ rfl
    have cH : ∀ σ : St, callI TT 39 [.agg [.int .i64 0, .nilS, .int .i64 0], .int .i64 1] σ = some (.int .i64 1, σ) := fun σ => v39n 1 σ _ rfl
    have cM : ∀ σ : St, callI TT 38 [.agg [.int .i64 0, .nilS, .int .i64 0], .int .i64 1] σ = some (.int .i64 1, σ.push ⟨[.int .i64 0, .nilS, .int .i64 0], 3, false⟩) := fun σ => m38n σ 1
    clear hS hI
    subst hσ
    clear p0
    simp [xI_seq, xI_region, xI_ret, regA, regOps, runOps, opStep, wantedA, opA, evo, evos, calleeA, lk, nif_eq, putE, paramsE, valS, val2, keepE, restrict, finA, resA, binA, binInt, ofConst, ofConst1, loadA, TK.isAgg, asVar, unA, builtinA, lenOpA, lenA, ileb_cast, ileb_eq, ieqb_dec, indexAddrA, inB_dec, evPairs, storeA, AV.cellsOf, pairsOf, xI_nil, binBool, gcE, evOpt, xI_block, xI_loopH, xI_condM, xI_exitM, xI_skip, xI_blk, exitA, ty3, ty4, ty41, ty46, cellsAt, getCells, takeN, dropN, fieldAddrA, allOne, AV.one, n_push, storeCellsA, putN, overN, ty2, ty33, ty38, ty41, St.push, St.get, St.set, hget, hset, tr, cS, cI, cE, cH, cM]
  | some r =>
    obtain ⟨W, l, O⟩ := r
    rw [hx] at hS hI
    have hl : l.length < 1000 := by
      exact regR_length hx
    obtain ⟨σ1, c1, r1, o1, n1⟩ := hS.row (σ := σ0) (args := [.agg [.int .i64 w, .int .i64 t]]) rfl
    obtain ⟨σ2, s2, n2, q2, o2⟩ := boxed σ1 (.int .i64 0) .nilS (.int .i64 0) (.int .i64 W) (.sl σ0.n 0 l.length l.length) (.int .i64 O) rfl
    replace r1 := r1.old o2
    obtain ⟨σ3, c3, r3, o3, n3⟩ := hI.row (σ := σ2) (args := [.agg [.int .i64 w, .int .i64 t]]) rfl
    replace r1 := r1.old o3
    replace q2 := cells_old (by omega) q2 o3
    obtain ⟨σ4, s4, n4, q4, o4⟩ := boxed σ3 (.int .i64 0) .nilS (.int .i64 0) (.int .i64 W) (.sl σ2.n 0 l.length l.length) (.int .i64 O) rfl
    replace r1 := r1.old o4
    replace r3 := r3.old o4
    replace q2 := cells_old (by omega) q2 o4
    have c5 := v34 W l O (by omega) σ4 [.agg [.int .i64 W, .sl σ2.n 0 l.length l.length, .int .i64 O], .agg [.int .i64 W, .sl σ0.n 0 l.length l.length, .int .i64 O]] (mapO_cons (frzV_agg (mapO_cons rfl (mapO_cons (r3.frz rfl (Nat.le_refl _)) (mapO_cons rfl rfl)))) (mapO_cons (frzV_agg (mapO_cons rfl (mapO_cons (r1.frz rfl (Nat.le_refl _)) (mapO_cons rfl rfl)))) rfl))
    obtain ⟨σ6, c6, r6, n6, u6⟩ := m38 σ4 σ2.n l.length 1 W O l rfl (by omega) (by decide) r3
    have hr1 := r1.lt
    replace r1 := r1.keep (by omega) (u6 _ (by omega) (by omega))
    have q4' : cellsAt σ6 (.ptr σ3.n 0) 3 = some [.int .i64 W, .sl σ2.n 0 l.length l.length, .int .i64 O] := by rw [← q4]; simp only [cellsAt]; rw [u6 _ (by omega) (by omega)]
    have q2' : cellsAt σ6 (.ptr σ1.n 0) 3 = some [.int .i64 W, .sl σ0.n 0 l.length l.length, .int .i64 O] := by rw [← q2]; simp only [cellsAt]; rw [u6 _ (by omega) (by omega)]
    have p4 := cells_old (by omega) p0 (o1.trans (o2.trans (o3.trans o4)))
    have p2 := cells_old (by omega) p0 (o1.trans o2)
    have p6 : cellsAt σ6 (.ptr 0 0) 2 = some [.int .i64 w, .int .i64 t] := by rw [← p4]; simp only [cellsAt]; rw [u6 _ (by omega) (by omega)]
    have hfz : mapO (frzV σ6 frzDepth) [.agg [.int .i64 W, .sl σ2.n 0 l.length l.length, .int .i64 O], .int .i64 (1 : Nat)] = some [.agg [.int .i64 W, .lst l.length (ints (iotaF (1 : Nat) l.length)), .int .i64 O], .int .i64 (1 : Nat)] := mapO_cons (frzV_agg (mapO_cons rfl (mapO_cons (r6.frz (iotaF_length _ _).symm (Nat.le_refl _)) (mapO_cons rfl rfl)))) rfl
    have c7 := v39 W O l.length 1 (by omega) (by decide) σ6 _ hfz
    obtain ⟨σ8, c8, r8, o8, n8⟩ := hI.row (σ := σ6) (args := [.agg [.int .i64 w, .int .i64 t]]) rfl
    replace r1 := r1.old o8
    replace r6 := r6.old o8
    replace q2' := cells_old (by omega) q2' o8
    have q4a := cells_old (by omega) q4' o8
    obtain ⟨σ9, s9, n9, q9, o9⟩ := boxed σ8 (.int .i64 0) .nilS (.int .i64 0) (.int .i64 W) (.sl σ6.n 0 l.length l.length) (.int .i64 O) rfl
    replace r1 := r1.old o9
    replace r6 := r6.old o9
    replace r8 := r8.old o9
    replace q2' := cells_old (by omega) q2' o9
    replace q4a := cells_old (by omega) q4a o9
    have c10 := v34 W l O (by omega) σ9 [.agg [.int .i64 W, .sl σ6.n 0 l.length l.length, .int .i64 O], .agg [.int .i64 W, .sl σ0.n 0 l.length l.length, .int .i64 O]] (mapO_cons (frzV_agg (mapO_cons rfl (mapO_cons (r8.frz rfl (Nat.le_refl _)) (mapO_cons rfl rfl)))) (mapO_cons (frzV_agg (mapO_cons rfl (mapO_cons (r1.frz rfl (Nat.le_refl _)) (mapO_cons rfl rfl)))) rfl))
    have hfz9 : mapO (frzV σ9 frzDepth) [.agg [.int .i64 W, .sl σ2.n 0 l.length l.length, .int .i64 O], .int .i64 (1 : Nat)] = some [.agg [.int .i64 W, .lst l.length (ints (iotaF (1 : Nat) l.length)), .int .i64 O], .int .i64 (1 : Nat)] := mapO_cons (frzV_agg (mapO_cons rfl (mapO_cons (r6.frz (iotaF_length _ _).symm (Nat.le_refl _)) (mapO_cons rfl rfl)))) rfl
    have c11 := v39 W O l.length 1 (by omega) (by decide) σ9 _ hfz9
    refine ⟨σ9, ?_⟩
    clear hS hI hfz hfz9 r1 r3 r6 r8 o1 o2 o3 o4 o8 o9 u6
    have z1 : ¬ (((1 + l.length : Nat) : Int) < 0) := by omega
    generalize ((1 + l.length : Nat) : Int) = z at *
    have z2 : 0 ≤ z := by omega
    simp only [show ((1 : Nat) : Int) = 1 from rfl] at c6 c7 c11
    simp [xI_seq, xI_region, xI_ret, regA, regOps, runOps, opStep, wantedA, opA, evo, evos, calleeA, lk, nif_eq, putE, paramsE, valS, val2, keepE, restrict, finA, resA, binA, binInt, ofConst, ofConst1, loadA, TK.isAgg, asVar, unA, builtinA, lenOpA, lenA, ileb_cast, ileb_eq, ieqb_dec, indexAddrA, inB_dec, evPairs, storeA, AV.cellsOf, pairsOf, xI_nil, binBool, gcE, evOpt, xI_block, xI_loopH, xI_condM, xI_exitM, xI_skip, xI_blk, exitA, ty3, ty4, ty41, ty46, allOne, AV.one, ty2, ty33, ty41, ty46, ty49, hσ, p0, tr, c1, s2, c3, q2, s4, q4, c5, c6, q4', q2', c7, c8, q4a, s9, q9, c10, c11, z1, z2, p2, p4, p6]
end Go.Proofs.Ytonnbgjbohbibaa
