/- Contracts: the costs of rolls. Nothing is claimed here; no condition. -/
import Derived.Test.YtjecbjnckbihoaaDoorDb
namespace Go.Proofs.YtjecbjnckbihoaaDoor
open Go Go.Abs
set_option linter.unusedSimpArgs false
set_option linter.unusedVariables false
open Go.Wd
open Go.Nm
noncomputable def okT (f : Nat) (F : Func) (args : List AV) (v : AV) : Bool := match exec TT 20000 (FI.of F (TT.an f)) [.code (F.body.getD .skip)] (paramsE 0 args) ⟨[], 0⟩ with
  | some (v', _) => v'.eqv v
  | none => false
theorem okT_V {f : Nat} {F : Func} {c : Code} {args : List AV} {v : AV} (hF : TT.fn f = some F) (hB : F.body = some c) (hm : (TT.an f).mode = 1) (hs : ∀ σ1, frzV σ1 frzDepth v = some v) (hv : v.scal = true) (h : okT f F args v = true) : FnV TT f args v := by
  refine FnV.mk hF hB hm ?_ hs hv
  unfold okT at h
  rw [hB] at h
  simp only [Option.getD] at h
  cases hx : exec TT 20000 (FI.of F (TT.an f)) [.code c] (paramsE 0 args) ⟨[], 0⟩ with
  | none => rw [hx] at h; cases h
  | some r =>
    rw [hx] at h
    obtain ⟨v', σ1⟩ := r
    have := eqv_sound _ _ h
    exact ⟨σ1, by rw [exI_iff.2 ⟨20000, hx⟩, this]⟩

def befN (n : Nat) : Nat := [0, 0, 1, 0, 2, 0, 1, 0, 3, 0, 1, 0, 2, 0, 1, 0, 4, 0, 1, 0, 2, 0, 1, 0, 3, 0, 1, 0, 2, 0, 1, 0, 5].getD n 0
def perN (n : Nat) : Nat := [1, 1, 1, 2, 1, 4, 2, 3, 1, 6, 4, 10, 2, 12, 3, 4, 1, 8, 6, 18, 4, 6, 10, 11, 2, 20, 12, 18, 3, 28, 4, 5, 1].getD n 1
set_option maxRecDepth 100000 in
theorem tab_cf : ((List.range 33).all fun n => Nat.beq n 0 || okT 20 Tryd.f20 [.int .i64 (n : Nat), .int .i64 (1 % n : Nat), .fn 21 [] [.lp [.int .i64 (n : Nat)] 0]] (.tup [.int .i64 (befN n : Nat), .int .i64 (perN n : Nat)])) = true := by kernel_rfl
theorem v20 {n : Nat} (h1 : 1 ≤ n) (h2 : n ≤ 32) : FnV TT 20 [.int .i64 n, .int .i64 (1 % n : Nat), .fn 21 [] [.lp [.int .i64 n] 0]] (.tup [.int .i64 (befN n : Nat), .int .i64 (perN n : Nat)]) := by
  have h := List.all_eq_true.1 tab_cf n (List.mem_range.2 (by omega))
  simp only [Bool.or_eq_true] at h
  rcases h with h | h
  · exact absurd (Nat.eq_of_beq_eq_true h) (by omega)
  · exact okT_V fn20 rfl md20 (fun _ => rfl) rfl h
theorem tab_bp : ((List.range 33).all fun n => Nat.ble (befN n + perN n) 30 && Nat.ble 1 (perN n)) = true := by decide +kernel
theorem bp_le {n : Nat} (h2 : n ≤ 32) : befN n + perN n ≤ 30 ∧ 1 ≤ perN n := by
  have h := List.all_eq_true.1 tab_bp n (List.mem_range.2 (by omega))
  simp only [Bool.and_eq_true] at h
  exact ⟨Nat.le_of_ble_eq_true h.1, Nat.le_of_ble_eq_true h.2⟩
theorem NA_eqv (n : Nat) : (NA n).eqv (NA n) = true := by unfold NA; simp [AV.eqv, eqvs_dgs]
def rqC (q : Rat) : List AV := [.bool (ng q), NA (nm q), NA q.den]
def QB (σ : St) (b : Nat) (q : Rat) : Prop := σ.get b = some ⟨rqC q, 3, false⟩
theorem QB.cc {σ : St} {b : Nat} {q : Rat} (h : QB σ b q) : cellsAt σ (.ptr b 0) 3 = some (rqC q) := by simp [cellsAt, (show σ.get b = _ from h), rqC, getCells, takeN, dropN]
theorem QB.st {σ : St} {b : Nat} {cs : List AV} (h : ∃ a b' c, cs = [a, b', c]) (hg : σ.get b = some ⟨cs, 3, false⟩) (q : Rat) : ∃ σ', storeCellsA σ b 0 (rqC q) = some σ' ∧ QB σ' b q ∧ σ'.n = σ.n ∧ ∀ d, d ≠ b → σ'.get d = σ.get d := by
  obtain ⟨a, b', c, rfl⟩ := h
  refine ⟨σ.set b ⟨rqC q, 3, false⟩, ?_, get_set_eq hg, rfl, fun d hd => get_set_ne (fun e => hd e.symm)⟩
  simp [storeCellsA, hg, rqC, putN, overN, allOne, AV.one, NA]
/-- What is left of the sides when i bits are drawn; its part of the cost. -/
def partQ (n i : Nat) : Rat := mkRat (2 ^ i % n : Nat) (2 ^ i)
def sumQ (n b : Nat) : Nat → Rat
  | 0 => mkRat 0 1
  | i + 1 => if i < b then sumQ n b i + partQ n i else sumQ n b i
def agnQ (n b : Nat) : Nat → Rat
  | 0 => mkRat 0 1
  | i + 1 => if i < b then agnQ n b i else agnQ n b i + partQ n i
theorem part_bd {n i : Nat} (h1 : 1 ≤ n) (hn : n ≤ 32) (hi : i ≤ 30) : Bd 32 (partQ n i) := by
  have hm := Nat.mod_lt (2 ^ i) (show 0 < n by omega)
  have hp : 2 ^ i ≤ 2 ^ 30 := Nat.pow_le_pow_right (by decide) hi
  have hp1 := Nat.two_pow_pos i
  exact low_bd (k := 32) (b := false) (n := 2 ^ i % n) (d := 2 ^ i) (by omega) (by omega) (by omega)
theorem zero_bd (k : Nat) : Bd (k + 1) (mkRat 0 1) := (low_bd (k := 1) (b := false) (n := 0) (d := 1) (by decide) (by decide) (by decide)).mono (by omega)
theorem sum_bd {n : Nat} (h1 : 1 ≤ n) (hn : n ≤ 32) (b : Nat) : ∀ i, i ≤ 31 → Bd (33 * i + 1) (sumQ n b i)
  | 0, _ => zero_bd 0
  | i + 1, h => by
    have ih := sum_bd h1 hn b i (by omega)
    rw [sumQ]
    split
    · exact (ih.add (part_bd h1 hn (by omega))).mono (by omega)
    · exact ih.mono (by omega)
theorem agn_bd {n : Nat} (h1 : 1 ≤ n) (hn : n ≤ 32) (b : Nat) : ∀ i, i ≤ 31 → Bd (33 * i + 1) (agnQ n b i)
  | 0, _ => zero_bd 0
  | i + 1, h => by
    have ih := agn_bd h1 hn b i (by omega)
    rw [agnQ]
    split
    · exact ih.mono (by omega)
    · exact (ih.add (part_bd h1 hn (by omega))).mono (by omega)
/-- The cost of a die. -/
def diceQ (n : Nat) : Rat := sumQ n (befN n) (befN n + perN n) + agnQ n (befN n) (befN n + perN n) * mkRat (2 ^ perN n : Nat) (2 ^ perN n - 1)
theorem pow2_mod (n i : Nat) : 2 * (2 ^ i % n) % n = 2 ^ (i + 1) % n := by
  rw [Nat.pow_succ, Nat.mul_comm, Nat.mod_mul_mod]

noncomputable def b10 : Code := Tryd.f10.body.getD .skip
noncomputable def B10_0 : Code := (bodyC (bodyC (sndC (fstC (sndC (sndC (sndC (sndC b10))))))))
noncomputable def K10_0 : List It := .lp B10_0 :: .blk 0 :: .code (sndC (sndC (sndC (sndC (sndC b10))))) :: []
theorem xl10_0 {fi : FI} {env : Env} {σ : St} : exI TT fi K10_0 env σ = exI TT fi (.code B10_0 :: K10_0) env σ := by unfold K10_0; exact xI_lp
noncomputable def R10_0_0 : List It := .code (sndC (sndC (sndC (sndC (sndC b10))))) :: []
theorem eK10_0_0 : exitA 0 K10_0 = some R10_0_0 := rfl
theorem RT_rqC (q : Rat) : RT q = .agg (rqC q) := rfl
set_option maxHeartbeats 2000000 in
/-- One bit more. -/
theorem s10 (n b pp i r r2 : Nat) (q0 q1 q2 q3 : Rat) (σ σ1 σ2 : St) (tgt : Nat) (ht : (i < b ∧ tgt = 1) ∨ (¬ i < b ∧ tgt = 2)) (hn : n ≤ 32) (h1 : 1 ≤ n) (hi : i < b + pp) (hbp : b + pp ≤ 30) (hr : r < n)
    (c1 : ∀ σ, callI TT 17 [.int .i64 r, .int .i64 (2 ^ i : Nat)] σ = some (.agg (rqC q0), σ)) (hw2 : wrapA .i64 (2 * (r : Int)) = ((2 * r : Nat) : Int)) (hm : ((2 * r : Nat) : Int).tmod (n : Int) = (r2 : Int))
    (s1 : storeCellsA (σ.push ⟨[.bool false, .nilS, .nilS], 3, false⟩) σ.n 0 (rqC q0) = some σ1) (g1 : cellsAt σ1 (.ptr σ.n 0) 3 = some (rqC q0)) (g2 : cellsAt σ1 (.ptr tgt 0) 3 = some (rqC q1))
    (c2 : ∀ σ, callI TT 23 [.agg (rqC q1), .agg (rqC q0)] σ = some (.agg (rqC q2), σ)) (s2 : storeCellsA σ1 tgt 0 (rqC q2) = some σ2) :
    exI TT (FI.of Tryd.f10 (TT.an 10)) K10_0 [(1, .lp [.int .i64 n] 0), (2, .ptr 0 0), (4, .int .i64 b), (5, .int .i64 pp), (6, .ptr 1 0), (7, .ptr 2 0), (8, .int .i64 r), (29, .int .i64 (b + pp : Nat)), (30, .int .i64 i)] σ = exI TT (FI.of Tryd.f10 (TT.an 10)) K10_0 [(1, .lp [.int .i64 n] 0), (2, .ptr 0 0), (4, .int .i64 b), (5, .int .i64 pp), (6, .ptr 1 0), (7, .ptr 2 0), (8, .int .i64 r2), (29, .int .i64 (b + pp : Nat)), (30, .int .i64 ((i : Int) + 1))] σ2 := by
  have hlt : (i : Int) < ((b + pp : Nat) : Int) := by omega
  have hw : wrapA .i64 ((i : Int) + 1) = (i : Int) + 1 := wrapA_id (by omega) (by omega)
  have hp : 2 ^ i ≤ 2 ^ 30 := Nat.pow_le_pow_right (by decide) (by omega)
  have t1 := sh_1 (b := i) (by omega)
  rw [show pw i = 2 ^ i from rfl] at t1
  have hneg : ¬ (i : Int) < 0 := by omega
  have hn0 : ¬ (n : Int) = 0 := by omega
  have hn00 : ¬ n = 0 := by omega
  have hlp : ∀ σ : St, cellsAt σ (.lp [.int .i64 n] 0) 1 = some [.int .i64 n] := fun σ => rfl
  unfold rqC at *
  have ex1 := NA_eqv (nm q1)
  have ex2 := NA_eqv q1.den
  have ex3 := NA_eqv (nm q0)
  have ex4 := NA_eqv q0.den
  generalize NA (nm q0) = x1 at *
  generalize NA q0.den = x2 at *
  generalize NA (nm q1) = x3 at *
  generalize NA q1.den = x4 at *
  generalize NA (nm q2) = x5 at *
  generalize NA q2.den = x6 at *
  generalize 2 * r = rr at *
  generalize 2 ^ i = P at *
  generalize b + pp = tt at *
  rcases ht with ⟨hb, rfl⟩ | ⟨hb, rfl⟩
  · have hbi : (i : Int) < (b : Int) := by omega
    rw [fi10]
    conv => lhs; rw [xl10_0]
    simp only [B10_0, b10, Tryd.f10, Option.getD, fstC, sndC, bodyC, thnC, elsC]
    simp [xI_seq, xI_region, xI_ret, regA, regOps, runOps, opStep, wantedA, opA, evo, evos, calleeA, lk, nif_eq, putE, paramsE, valS, val2, keepE, restrict, finA, resA, binA, binInt, ofConst, ofConst1, loadA, TK.isAgg, asVar, unA, builtinA, lenOpA, lenA, ileb_cast, ileb_eq, ieqb_dec, indexAddrA, inB_dec, evPairs, storeA, AV.cellsOf, pairsOf, xI_nil, binBool, gcE, evOpt, tagZ, isI64, pureLd, loadP, boxP, xI_block, xI_loopH, xI_condM, xI_exitM, xI_skip, xI_blk, exitA, ty2, ty4, ty31, ty43, eK10_0_0, runTr, pairsOk, pairOk, lstAt, lastOf, sameVal, AV.eqv, eqvs, eqvs_ints, regOps, blt_dec, cond_true, cond_false, fieldAddrA, allOne, AV.one, buildA, sizesOf, fillA, putCells, n_push, indexA, ty2, ty9, ty5, ty3, ty26, regF, twoOf, prsOf, memI, runTrF, selF, runTr2, freshOp, scals, AV.scal, lastOf, lstAt, pairsOk, pairOk, runTr, sameVal, AV.eqv, eqvs, ty43, ty31, hlt, hi, hw, t1, hneg, hn0, hn00, hlp, c1, hw2, hm, s1, g1, g2, c2, s2, hb, hbi, ex1, ex2, ex3, ex4]
  · have hbi : ¬ (i : Int) < (b : Int) := by omega
    rw [fi10]
    conv => lhs; rw [xl10_0]
    simp only [B10_0, b10, Tryd.f10, Option.getD, fstC, sndC, bodyC, thnC, elsC]
    simp [xI_seq, xI_region, xI_ret, regA, regOps, runOps, opStep, wantedA, opA, evo, evos, calleeA, lk, nif_eq, putE, paramsE, valS, val2, keepE, restrict, finA, resA, binA, binInt, ofConst, ofConst1, loadA, TK.isAgg, asVar, unA, builtinA, lenOpA, lenA, ileb_cast, ileb_eq, ieqb_dec, indexAddrA, inB_dec, evPairs, storeA, AV.cellsOf, pairsOf, xI_nil, binBool, gcE, evOpt, tagZ, isI64, pureLd, loadP, boxP, xI_block, xI_loopH, xI_condM, xI_exitM, xI_skip, xI_blk, exitA, ty2, ty4, ty31, ty43, eK10_0_0, runTr, pairsOk, pairOk, lstAt, lastOf, sameVal, AV.eqv, eqvs, eqvs_ints, regOps, blt_dec, cond_true, cond_false, fieldAddrA, allOne, AV.one, buildA, sizesOf, fillA, putCells, n_push, indexA, ty2, ty9, ty5, ty3, ty26, regF, twoOf, prsOf, memI, runTrF, selF, runTr2, freshOp, scals, AV.scal, lastOf, lstAt, pairsOk, pairOk, runTr, sameVal, AV.eqv, eqvs, ty43, ty31, hlt, hi, hw, t1, hneg, hn0, hn00, hlp, c1, hw2, hm, s1, g1, g2, c2, s2, hb, hbi, ex1, ex2, ex3, ex4]

theorem l10 {n : Nat} (h1 : 1 ≤ n) (hn : n ≤ 32) (b pp : Nat) (hbp : b + pp ≤ 30) : ∀ (m i : Nat) (σ : St), i + m = b + pp → QB σ 1 (sumQ n b i) → QB σ 2 (agnQ n b i) → σ.get 0 = some ⟨[.int .i64 0, .int .i64 0], 2, false⟩ → 2 < σ.n →
    ∃ σ', exI TT (FI.of Tryd.f10 (TT.an 10)) K10_0 [(1, .lp [.int .i64 n] 0), (2, .ptr 0 0), (4, .int .i64 b), (5, .int .i64 pp), (6, .ptr 1 0), (7, .ptr 2 0), (8, .int .i64 (2 ^ i % n : Nat)), (29, .int .i64 (b + pp : Nat)), (30, .int .i64 i)] σ = exI TT (FI.of Tryd.f10 (TT.an 10)) K10_0 [(1, .lp [.int .i64 n] 0), (2, .ptr 0 0), (4, .int .i64 b), (5, .int .i64 pp), (6, .ptr 1 0), (7, .ptr 2 0), (8, .int .i64 (2 ^ (b + pp) % n : Nat)), (29, .int .i64 (b + pp : Nat)), (30, .int .i64 (b + pp : Nat))] σ' ∧ QB σ' 1 (sumQ n b (b + pp)) ∧ QB σ' 2 (agnQ n b (b + pp)) ∧ σ'.get 0 = some ⟨[.int .i64 0, .int .i64 0], 2, false⟩ := by
  intro m
  induction m with
  | zero =>
    intro i σ hi hq1 hq2 h0 hn2
    obtain rfl : i = b + pp := by omega
    exact ⟨σ, rfl, hq1, hq2, h0⟩
  | succ m ih =>
    intro i σ hi hq1 hq2 h0 hn2
    have hr := Nat.mod_lt (2 ^ i) (show 0 < n by omega)
    have hp : 2 ^ i ≤ 2 ^ 30 := Nat.pow_le_pow_right (by decide) (by omega)
    have hp1 := Nat.two_pow_pos i
    have c1 : ∀ σ, callI TT 17 [.int .i64 (2 ^ i % n : Nat), .int .i64 (2 ^ i : Nat)] σ = some (.agg (rqC (partQ n i)), σ) := fun σ => (r17 (n := ((2 ^ i % n : Nat) : Int)) (d := 2 ^ i) (by omega) (by omega) (by omega) (by omega)).pure σ rfl rfl
    have hw2 : wrapA .i64 (2 * ((2 ^ i % n : Nat) : Int)) = ((2 * (2 ^ i % n) : Nat) : Int) := by rw [wrapA_id (by omega) (by omega)]; omega
    have hm : ((2 * (2 ^ i % n) : Nat) : Int).tmod (n : Int) = ((2 ^ (i + 1) % n : Nat) : Int) := by rw [← pow2_mod]; rfl
    obtain ⟨σp, ep⟩ : ∃ σp, σ.push ⟨[.bool false, .nilS, .nilS], 3, false⟩ = σp := ⟨_, rfl⟩
    have gp : σp.get σ.n = some ⟨[.bool false, .nilS, .nilS], 3, false⟩ := by subst ep; exact get_push_same
    have np : σp.n = σ.n + 1 := by subst ep; rfl
    have op : ∀ d, d < σ.n → σp.get d = σ.get d := fun d hd => by subst ep; exact get_push_lt hd
    obtain ⟨σ1, s1, p1, n1, o1⟩ := QB.st (σ := σp) (b := σ.n) ⟨_, _, _, rfl⟩ gp (partQ n i)
    have oo : ∀ d, d < σ.n → σ1.get d = σ.get d := fun d hd => (o1 d (by omega)).trans (op d hd)
    have hq1' : QB σ1 1 (sumQ n b i) := (oo 1 (by omega)).trans hq1
    have hq2' : QB σ1 2 (agnQ n b i) := (oo 2 (by omega)).trans hq2
    have h0' := (oo 0 (by omega)).trans h0
    have pb := part_bd h1 hn (i := i) (by omega)
    rw [← ep] at s1
    by_cases hb : i < b
    · have e1 : sumQ n b (i + 1) = sumQ n b i + partQ n i := by rw [sumQ, if_pos hb]
      have e2 : agnQ n b (i + 1) = agnQ n b i := by rw [agnQ, if_pos hb]
      have sb := sum_bd h1 hn b i (by omega)
      have c2 : ∀ σ, callI TT 23 [.agg (rqC (sumQ n b i)), .agg (rqC (partQ n i))] σ = some (.agg (rqC (sumQ n b (i + 1))), σ) := fun σ => by
        rw [e1]; exact (r23 (k := 1100) (sb.mono (by omega)) (pb.mono (by omega)) (by decide)).pure σ rfl rfl
      obtain ⟨σ2, s2, q2, n2, o2⟩ := QB.st (σ := σ1) (b := 1) ⟨_, _, _, rfl⟩ hq1' (sumQ n b (i + 1))
      obtain ⟨σ', k1, k2⟩ := ih (i + 1) σ2 (by omega) q2 (by rw [e2]; exact (o2 2 (by decide)).trans hq2') ((o2 0 (by decide)).trans h0') (by omega)
      refine ⟨σ', ?_, k2⟩
      rw [← k1, show ((i + 1 : Nat) : Int) = (i : Int) + 1 by omega]
      exact s10 n b pp i (2 ^ i % n) (2 ^ (i + 1) % n) (partQ n i) (sumQ n b i) (sumQ n b (i + 1)) 0 σ σ1 σ2 1 (.inl ⟨hb, rfl⟩) hn h1 (by omega) hbp hr c1 hw2 hm s1 p1.cc hq1'.cc c2 s2
    · have e1 : sumQ n b (i + 1) = sumQ n b i := by rw [sumQ, if_neg hb]
      have e2 : agnQ n b (i + 1) = agnQ n b i + partQ n i := by rw [agnQ, if_neg hb]
      have sb := agn_bd h1 hn b i (by omega)
      have c2 : ∀ σ, callI TT 23 [.agg (rqC (agnQ n b i)), .agg (rqC (partQ n i))] σ = some (.agg (rqC (agnQ n b (i + 1))), σ) := fun σ => by
        rw [e2]; exact (r23 (k := 1100) (sb.mono (by omega)) (pb.mono (by omega)) (by decide)).pure σ rfl rfl
      obtain ⟨σ2, s2, q2, n2, o2⟩ := QB.st (σ := σ1) (b := 2) ⟨_, _, _, rfl⟩ hq2' (agnQ n b (i + 1))
      obtain ⟨σ', k1, k2⟩ := ih (i + 1) σ2 (by omega) (by rw [e1]; exact (o2 1 (by decide)).trans hq1') q2 ((o2 0 (by decide)).trans h0') (by omega)
      refine ⟨σ', ?_, k2⟩
      rw [← k1, show ((i + 1 : Nat) : Int) = (i : Int) + 1 by omega]
      exact s10 n b pp i (2 ^ i % n) (2 ^ (i + 1) % n) (partQ n i) (agnQ n b i) (agnQ n b (i + 1)) 0 σ σ1 σ2 2 (.inr ⟨hb, rfl⟩) hn h1 (by omega) hbp hr c1 hw2 hm s1 p1.cc hq2'.cc c2 s2
set_option maxHeartbeats 2000000 in
theorem e10 (n b pp r : Nat) (hp : pp ≤ 30) (h1 : 1 ≤ pp) (q1 q2 q3 q4 q5 : Rat) (σ : St) (x y : Int) (bo : Bool) (σ2 : St)
    (g1 : cellsAt σ (.ptr 1 0) 3 = some (rqC q1)) (g2 : cellsAt σ (.ptr 2 0) 3 = some (rqC q2)) (c1 : ∀ σ, callI TT 17 [.int .i64 (2 ^ pp : Nat), .int .i64 (2 ^ pp - 1 : Nat)] σ = some (.agg (rqC q3), σ))
    (c2 : ∀ σ, callI TT 24 [.agg (rqC q2), .agg (rqC q3)] σ = some (.agg (rqC q4), σ)) (c3 : ∀ σ, callI TT 23 [.agg (rqC q1), .agg (rqC q4)] σ = some (.agg (rqC q5), σ)) (c4 : ∀ σ, callI TT 18 [.agg (rqC q5)] σ = some (.tup [.agg [.int .i64 x, .int .i64 y], .bool bo], σ))
    (s1 : storeCellsA σ 0 0 [.int .i64 x, .int .i64 y] = some σ2) (g3 : cellsAt σ2 (.ptr 0 0) 2 = some [.int .i64 x, .int .i64 y]) :
    exI TT (FI.of Tryd.f10 (TT.an 10)) K10_0 [(1, .lp [.int .i64 n] 0), (2, .ptr 0 0), (4, .int .i64 b), (5, .int .i64 pp), (6, .ptr 1 0), (7, .ptr 2 0), (8, .int .i64 r), (29, .int .i64 (b + pp : Nat)), (30, .int .i64 (b + pp : Nat))] σ = some (.tup [.agg [.int .i64 x, .int .i64 y], .bool bo], σ2) := by
  have hpw : 2 ^ pp ≤ 2 ^ 30 := Nat.pow_le_pow_right (by decide) hp
  have t1 := sh_1 (b := pp) (by omega)
  rw [show pw pp = 2 ^ pp from rfl] at t1
  have hneg : ¬ (pp : Int) < 0 := by omega
  have hp1 := Nat.two_pow_pos pp
  have w1 : wrapA .i64 (((2 ^ pp : Nat) : Int) - 1) = ((2 ^ pp - 1 : Nat) : Int) := by rw [wrapA_id (by omega) (by omega)]; omega
  unfold rqC at *
  have ex1 := NA_eqv (nm q1)
  have ex2 := NA_eqv q1.den
  have ex3 := NA_eqv (nm q2)
  have ex4 := NA_eqv q2.den
  generalize NA (nm q1) = x1 at *
  generalize NA q1.den = x2 at *
  generalize NA (nm q2) = x3 at *
  generalize NA q2.den = x4 at *
  generalize NA (nm q3) = x5 at *
  generalize NA q3.den = x6 at *
  generalize NA (nm q4) = x7 at *
  generalize NA q4.den = x8 at *
  generalize NA (nm q5) = x9 at *
  generalize NA q5.den = x10 at *
  generalize 2 ^ pp - 1 = P1 at *
  generalize 2 ^ pp = P at *
  generalize b + pp = tt at *
  rw [fi10]
  rw [xl10_0]
  simp only [B10_0, b10, Tryd.f10, Option.getD, fstC, sndC, bodyC, thnC, elsC]
  simp [xI_seq, xI_region, xI_ret, regA, regOps, runOps, opStep, wantedA, opA, evo, evos, calleeA, lk, nif_eq, putE, paramsE, valS, val2, keepE, restrict, finA, resA, binA, binInt, ofConst, ofConst1, loadA, TK.isAgg, asVar, unA, builtinA, lenOpA, lenA, ileb_cast, ileb_eq, ieqb_dec, indexAddrA, inB_dec, evPairs, storeA, AV.cellsOf, pairsOf, xI_nil, binBool, gcE, evOpt, tagZ, isI64, pureLd, loadP, boxP, xI_block, xI_loopH, xI_condM, xI_exitM, xI_skip, xI_blk, exitA, ty2, ty4, ty31, ty43, eK10_0_0, runTr, pairsOk, pairOk, lstAt, lastOf, sameVal, AV.eqv, eqvs, eqvs_ints, regOps, blt_dec, cond_true, cond_false, fieldAddrA, allOne, AV.one, buildA, sizesOf, fillA, putCells, n_push, indexA, ty2, ty9, ty5, ty3, ty26, regF, twoOf, prsOf, memI, runTrF, selF, runTr2, freshOp, scals, AV.scal, lastOf, lstAt, pairsOk, pairOk, runTr, sameVal, AV.eqv, eqvs]
  simp only [R10_0_0, b10, Tryd.f10, Option.getD, fstC, sndC, bodyC, thnC, elsC]
  simp [xI_seq, xI_region, xI_ret, regA, regOps, runOps, opStep, wantedA, opA, evo, evos, calleeA, lk, nif_eq, putE, paramsE, valS, val2, keepE, restrict, finA, resA, binA, binInt, ofConst, ofConst1, loadA, TK.isAgg, asVar, unA, builtinA, lenOpA, lenA, ileb_cast, ileb_eq, ieqb_dec, indexAddrA, inB_dec, evPairs, storeA, AV.cellsOf, pairsOf, xI_nil, binBool, gcE, evOpt, tagZ, isI64, pureLd, loadP, boxP, xI_block, xI_loopH, xI_condM, xI_exitM, xI_skip, xI_blk, exitA, ty2, ty4, ty31, ty43, eK10_0_0, runTr, pairsOk, pairOk, lstAt, lastOf, sameVal, AV.eqv, eqvs, eqvs_ints, regOps, blt_dec, cond_true, cond_false, fieldAddrA, allOne, AV.one, buildA, sizesOf, fillA, putCells, n_push, indexA, ty2, ty9, ty5, ty3, ty26, regF, twoOf, prsOf, memI, runTrF, selF, runTr2, freshOp, scals, AV.scal, lastOf, lstAt, pairsOk, pairOk, runTr, sameVal, AV.eqv, eqvs, ty43, ty31, g1, g2, g3, t1, hneg, w1, c1, c2, c3, c4, s1, ex1, ex2, ex3, ex4]
set_option maxHeartbeats 2000000 in
theorem p10 (n b pp r : Nat) (h1 : 1 ≤ n) (hn : n ≤ 32) (hbp : b + pp ≤ 30) (q : Rat) (σ0 σ1 σ2 σ3 σ4 : St) (e0 : (⟨[], 0⟩ : St).push ⟨[.int .i64 0, .int .i64 0], 2, false⟩ = σ0) (n0 : σ0.n = 1) (e1 : σ0.push ⟨[.bool false, .nilS, .nilS], 3, false⟩ = σ1) (n1 : σ1.n = 2) (e2 : σ1.push ⟨[.bool false, .nilS, .nilS], 3, false⟩ = σ2)
    (c1 : ∀ σ, callI TT 19 [.int .i64 n, .int .i64 1, .int .i64 32] σ = some (.bool true, σ)) (c2 : ∀ σ, callI TT 20 [.int .i64 n, .int .i64 r, .fn 21 [] [.lp [.int .i64 n] 0]] σ = some (.tup [.int .i64 b, .int .i64 pp], σ)) (hm : (1 : Int).tmod (n : Int) = (r : Int))
    (c3 : ∀ σ, callI TT 22 [.int .i64 0] σ = some (.agg (rqC q), σ)) (s1 : storeCellsA σ2 1 0 (rqC q) = some σ3) (s2 : storeCellsA σ3 2 0 (rqC q) = some σ4) :
    exI TT (FI.of Tryd.f10 (TT.an 10)) [.code b10] (paramsE 0 [.int .i64 n]) ⟨[], 0⟩ = exI TT (FI.of Tryd.f10 (TT.an 10)) K10_0 [(1, .lp [.int .i64 n] 0), (2, .ptr 0 0), (4, .int .i64 b), (5, .int .i64 pp), (6, .ptr 1 0), (7, .ptr 2 0), (8, .int .i64 r), (29, .int .i64 (b + pp : Nat)), (30, .int .i64 0)] σ4 := by
  have w1 : wrapA .i64 ((b : Int) + (pp : Int)) = ((b + pp : Nat) : Int) := by rw [wrapA_id (by omega) (by omega)]; omega
  have hlp : ∀ σ : St, cellsAt σ (.lp [.int .i64 n] 0) 1 = some [.int .i64 n] := fun σ => rfl
  have hn0 : ¬ (n : Int) = 0 := by omega
  have hn00 : ¬ n = 0 := by omega
  unfold rqC at *
  generalize NA (nm q) = x1 at *
  generalize NA q.den = x2 at *
  generalize b + pp = tt at *
  rw [fi10]
  simp only [b10, Tryd.f10, Option.getD, fstC, sndC, bodyC, thnC, elsC]
  simp [xI_seq, xI_region, xI_ret, regA, regOps, runOps, opStep, wantedA, opA, evo, evos, calleeA, lk, nif_eq, putE, paramsE, valS, val2, keepE, restrict, finA, resA, binA, binInt, ofConst, ofConst1, loadA, TK.isAgg, asVar, unA, builtinA, lenOpA, lenA, ileb_cast, ileb_eq, ieqb_dec, indexAddrA, inB_dec, evPairs, storeA, AV.cellsOf, pairsOf, xI_nil, binBool, gcE, evOpt, tagZ, isI64, pureLd, loadP, boxP, xI_block, xI_loopH, xI_condM, xI_exitM, xI_skip, xI_blk, exitA, ty2, ty4, ty31, ty43, eK10_0_0, runTr, pairsOk, pairOk, lstAt, lastOf, sameVal, AV.eqv, eqvs, eqvs_ints, regOps, blt_dec, cond_true, cond_false, fieldAddrA, allOne, AV.one, buildA, sizesOf, fillA, putCells, n_push, indexA, ty2, ty9, ty5, ty3, ty26, regF, twoOf, prsOf, memI, runTrF, selF, runTr2, freshOp, scals, AV.scal, lastOf, lstAt, pairsOk, pairOk, runTr, sameVal, AV.eqv, eqvs, ty43, ty31, e0, n0, e1, n1, e2, c1, c2, hm, c3, s1, s2, w1, hlp, hn0, hn00]
  rfl
theorem frA_ex (q : Rat) : ∃ (x y : Int) (b : Bool), frA q = .tup [.agg [.int .i64 x, .int .i64 y], .bool b] := by
  unfold frA; split
  · exact ⟨_, _, _, rfl⟩
  · exact ⟨_, _, _, rfl⟩
theorem v10 {n : Nat} (h1 : 1 ≤ n) (hn : n ≤ 32) : FnV TT 10 [.int .i64 n] (frA (diceQ n)) := by
  obtain ⟨hbp, hp1⟩ := bp_le hn
  obtain ⟨σ0, e0⟩ : ∃ σ0, (⟨[], 0⟩ : St).push ⟨[.int .i64 0, .int .i64 0], 2, false⟩ = σ0 := ⟨_, rfl⟩
  have n0 : σ0.n = 1 := by subst e0; rfl
  have g0 : σ0.get 0 = some ⟨[.int .i64 0, .int .i64 0], 2, false⟩ := by subst e0; exact get_push_same
  obtain ⟨σ1, e1⟩ : ∃ σ1, σ0.push ⟨[.bool false, .nilS, .nilS], 3, false⟩ = σ1 := ⟨_, rfl⟩
  have n1 : σ1.n = 2 := by subst e1; show σ0.n + 1 = 2; omega
  have g11 : σ1.get 1 = some ⟨[.bool false, .nilS, .nilS], 3, false⟩ := by subst e1; rw [← n0]; exact get_push_same
  have g10 : σ1.get 0 = some ⟨[.int .i64 0, .int .i64 0], 2, false⟩ := by subst e1; rw [get_push_lt (by omega)]; exact g0
  obtain ⟨σ2, e2⟩ : ∃ σ2, σ1.push ⟨[.bool false, .nilS, .nilS], 3, false⟩ = σ2 := ⟨_, rfl⟩
  have n2 : σ2.n = 3 := by subst e2; show σ1.n + 1 = 3; omega
  have g22 : σ2.get 2 = some ⟨[.bool false, .nilS, .nilS], 3, false⟩ := by subst e2; rw [← n1]; exact get_push_same
  have g21 : σ2.get 1 = some ⟨[.bool false, .nilS, .nilS], 3, false⟩ := by subst e2; rw [get_push_lt (by omega)]; exact g11
  have g20 : σ2.get 0 = some ⟨[.int .i64 0, .int .i64 0], 2, false⟩ := by subst e2; rw [get_push_lt (by omega)]; exact g10
  obtain ⟨σ3, s1, a1, m1, o1⟩ := QB.st (σ := σ2) (b := 1) ⟨_, _, _, rfl⟩ g21 (mkRat 0 1)
  obtain ⟨σ4, s2, a2, m2, o2⟩ := QB.st (σ := σ3) (b := 2) ⟨_, _, _, rfl⟩ ((o1 2 (by decide)).trans g22) (mkRat 0 1)
  have c1 : ∀ σ, callI TT 19 [.int .i64 n, .int .i64 1, .int .i64 32] σ = some (.bool true, σ) := fun σ => by
    have := c19 n 1 32 σ
    rwa [show inR (n : Int) 1 32 = true from inR_iff.2 (by omega)] at this
  have c2 : ∀ σ, callI TT 20 [.int .i64 n, .int .i64 (1 % n : Nat), .fn 21 [] [.lp [.int .i64 n] 0]] σ = some (.tup [.int .i64 (befN n : Nat), .int .i64 (perN n : Nat)], σ) := fun σ => v20 h1 hn σ _ rfl
  have c3 : ∀ σ, callI TT 22 [.int .i64 0] σ = some (.agg (rqC (mkRat 0 1)), σ) := fun σ => (r22 (n := 0) (by decide) (by decide)).pure σ rfl rfl
  have hb := p10 n (befN n) (perN n) (1 % n) h1 hn hbp (mkRat 0 1) σ0 σ1 σ2 σ3 σ4 e0 n0 e1 n1 e2 c1 c2 rfl c3 s1 s2
  obtain ⟨σ5, k1, k2, k3, k4⟩ := l10 h1 hn (befN n) (perN n) hbp (befN n + perN n) 0 σ4 (by omega) ((o2 1 (by decide)).trans a1) a2 ((o2 0 (by decide)).trans ((o1 0 (by decide)).trans g20)) (by omega)
  have sb := sum_bd h1 hn (befN n) (befN n + perN n) (by omega)
  have ab := agn_bd h1 hn (befN n) (befN n + perN n) (by omega)
  have hpw : 2 ^ perN n ≤ 2 ^ 30 := Nat.pow_le_pow_right (by decide) (by omega)
  have hpw1 : 2 ^ 1 ≤ 2 ^ perN n := Nat.pow_le_pow_right (by decide) hp1
  have qb : Bd 32 (mkRat (2 ^ perN n : Nat) (2 ^ perN n - 1)) := low_bd (k := 32) (b := false) (n := 2 ^ perN n) (d := 2 ^ perN n - 1) (by omega) (by omega) (by omega)
  have mb := ab.mul qb
  have d1 : ∀ σ, callI TT 17 [.int .i64 (2 ^ perN n : Nat), .int .i64 (2 ^ perN n - 1 : Nat)] σ = some (.agg (rqC (mkRat (2 ^ perN n : Nat) (2 ^ perN n - 1))), σ) := fun σ => (r17 (n := ((2 ^ perN n : Nat) : Int)) (d := 2 ^ perN n - 1) (by omega) (by omega) (by omega) (by omega)).pure σ rfl rfl
  have d2 : ∀ σ, callI TT 24 [.agg (rqC (agnQ n (befN n) (befN n + perN n))), .agg (rqC (mkRat (2 ^ perN n : Nat) (2 ^ perN n - 1)))] σ = some (.agg (rqC (agnQ n (befN n) (befN n + perN n) * mkRat (2 ^ perN n : Nat) (2 ^ perN n - 1))), σ) := fun σ => (r24 (k := 1100) (ab.mono (by omega)) (qb.mono (by omega)) (by decide)).pure σ rfl rfl
  have d3 : ∀ σ, callI TT 23 [.agg (rqC (sumQ n (befN n) (befN n + perN n))), .agg (rqC (agnQ n (befN n) (befN n + perN n) * mkRat (2 ^ perN n : Nat) (2 ^ perN n - 1)))] σ = some (.agg (rqC (diceQ n)), σ) := fun σ => (r23 (k := 1200) (sb.mono (by omega)) (mb.mono (by omega)) (by decide)).pure σ rfl rfl
  have db : Bd 3000 (diceQ n) := (sb.add mb).mono (by omega)
  have d4 : ∀ σ, callI TT 18 [.agg (rqC (diceQ n))] σ = some (frA (diceQ n), σ) := fun σ => r18 db (by decide) σ [RT (diceQ n)] rfl
  obtain ⟨x, y, bo, hfr⟩ := frA_ex (diceQ n)
  rw [hfr] at d4 ⊢
  have s4 : storeCellsA σ5 0 0 [.int .i64 x, .int .i64 y] = some (σ5.set 0 ⟨[.int .i64 x, .int .i64 y], 2, false⟩) := by
    simp [storeCellsA, k4, putN, overN, allOne, AV.one]
  have g4 : cellsAt (σ5.set 0 ⟨[.int .i64 x, .int .i64 y], 2, false⟩) (.ptr 0 0) 2 = some [.int .i64 x, .int .i64 y] := by
    simp [cellsAt, get_set_eq k4, getCells, takeN, dropN]
  have he := e10 n (befN n) (perN n) (2 ^ (befN n + perN n) % n) (by omega) hp1 _ _ _ _ _ σ5 x y bo _ k2.cc k3.cc d1 d2 d3 d4 s4 g4
  refine FnV.mk (c := b10) fn10 rfl md10 ⟨σ5.set 0 ⟨[.int .i64 x, .int .i64 y], 2, false⟩, ?_⟩ (fun _ => rfl) rfl
  rw [hb]
  rw [show ((0 : Nat) : Int) = 0 from rfl, show (2 ^ 0 % n : Nat) = 1 % n from rfl] at k1
  rw [k1]
  exact he
/-- The cost of rejection. -/
def rejQ (n : Nat) : Rat := mkRat (kOf n * 2 ^ kOf n : Nat) n

set_option maxHeartbeats 2000000 in
theorem v9 {n : Nat} (h1 : 1 ≤ n) (hn : n ≤ 32) : FnV TT 9 [.int .i64 n] (frA (rejQ n)) := by
  have hk := kOf_le h1 hn
  have hp : 2 ^ kOf n ≤ 2 ^ 5 := Nat.pow_le_pow_right (by decide) hk
  have hkp : kOf n * 2 ^ kOf n ≤ 5 * 2 ^ 5 := Nat.mul_le_mul hk hp
  obtain ⟨σ0, e0⟩ : ∃ σ0, (⟨[], 0⟩ : St).push ⟨[.int .i64 0, .int .i64 0], 2, false⟩ = σ0 := ⟨_, rfl⟩
  have g0 : σ0.get 0 = some ⟨[.int .i64 0, .int .i64 0], 2, false⟩ := by subst e0; exact get_push_same
  have c1 : ∀ σ, callI TT 12 [.int .i64 n] σ = some (.bool true, σ) := fun σ => v12 h1 (by omega) σ _ rfl
  have c2 : ∀ σ, callI TT 14 [.int .i64 n] σ = some (.int .i64 (kOf n : Nat), σ) := fun σ => v14 h1 (by omega) σ _ rfl
  have c3 : ∀ σ, callI TT 17 [.int .i64 (kOf n * 2 ^ kOf n : Nat), .int .i64 n] σ = some (.agg (rqC (rejQ n)), σ) := fun σ => (r17 (n := ((kOf n * 2 ^ kOf n : Nat) : Int)) (d := n) (by omega) (by omega) (by omega) (by omega)).pure σ rfl rfl
  have db : Bd 60 (rejQ n) := low_bd (k := 60) (b := false) (n := kOf n * 2 ^ kOf n) (d := n) (by omega) (by omega) (by omega)
  have c4 : ∀ σ, callI TT 18 [.agg (rqC (rejQ n))] σ = some (frA (rejQ n), σ) := fun σ => r18 db (by decide) σ [RT (rejQ n)] rfl
  obtain ⟨x, y, bo, hfr⟩ := frA_ex (rejQ n)
  rw [hfr] at c4 ⊢
  have s4 : storeCellsA σ0 0 0 [.int .i64 x, .int .i64 y] = some (σ0.set 0 ⟨[.int .i64 x, .int .i64 y], 2, false⟩) := by
    simp [storeCellsA, g0, putN, overN, allOne, AV.one]
  have g4 : cellsAt (σ0.set 0 ⟨[.int .i64 x, .int .i64 y], 2, false⟩) (.ptr 0 0) 2 = some [.int .i64 x, .int .i64 y] := by
    simp [cellsAt, get_set_eq g0, getCells, takeN, dropN]
  have t1 := sh_l (a := kOf n) (b := kOf n) (by omega) (by omega)
  rw [show shlN (kOf n) (kOf n) = kOf n * 2 ^ kOf n from rfl] at t1
  have hneg : ¬ (kOf n : Int) < 0 := by omega
  refine FnV.mk (c := Tryd.f9.body.getD .skip) fn9 rfl md9 ⟨σ0.set 0 ⟨[.int .i64 x, .int .i64 y], 2, false⟩, ?_⟩ (fun _ => rfl) rfl
  clear g0 db hfr hp hkp
  unfold rqC at *
  generalize NA (nm (rejQ n)) = x1 at *
  generalize NA (rejQ n).den = x2 at *
  generalize kOf n * 2 ^ kOf n = P at *
  generalize kOf n = k at *
  rw [fi9]
  simp only [Tryd.f9, Option.getD]
  simp [xI_seq, xI_region, xI_ret, regA, regOps, runOps, opStep, wantedA, opA, evo, evos, calleeA, lk, nif_eq, putE, paramsE, valS, val2, keepE, restrict, finA, resA, binA, binInt, ofConst, ofConst1, loadA, TK.isAgg, asVar, unA, builtinA, lenOpA, lenA, ileb_cast, ileb_eq, ieqb_dec, indexAddrA, inB_dec, evPairs, storeA, AV.cellsOf, pairsOf, xI_nil, binBool, gcE, evOpt, tagZ, isI64, pureLd, loadP, boxP, xI_block, xI_loopH, xI_condM, xI_exitM, xI_skip, xI_blk, exitA, ty2, ty4, ty31, runTr, pairsOk, pairOk, lstAt, lastOf, sameVal, AV.eqv, eqvs, eqvs_ints, regOps, blt_dec, cond_true, cond_false, fieldAddrA, allOne, AV.one, buildA, sizesOf, fillA, putCells, n_push, indexA, ty2, ty9, ty5, ty3, ty26, regF, twoOf, prsOf, memI, runTrF, selF, runTr2, freshOp, scals, AV.scal, lastOf, lstAt, pairsOk, pairOk, runTr, sameVal, AV.eqv, eqvs, ty43, ty31, e0, c1, c2, c3, c4, s4, g4, t1, hneg]

end Go.Proofs.YtjecbjnckbihoaaDoor
