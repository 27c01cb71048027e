/- Contracts: costs of trees. Nothing is claimed here; no condition. -/
import Derived.Test.YthkdbkjkccogfaaDoorKb
import Derived.Test.YthkdbkjkccogfaaDoorQc
import Derived.Test.YthkdbkjkccogfaaDoorXs
namespace Go.Proofs.YthkdbkjkccogfaaDoor
open Go Go.Abs
set_option linter.unusedSimpArgs false
set_option linter.unusedVariables false
open Go.Wd
open Go.Nm
theorem NA_eqv (n : Nat) : (NA n).eqv (NA n) = true := by unfold NA; simp [AV.eqv, eqvs_dgs]
def rqC (q : Rat) : List AV := [.bool (ng q), NA (nm q), NA q.den]
def QB (σ : St) (b : Nat) (q : Rat) : Prop := σ.get b = some ⟨rqC q, 3, false⟩
theorem QB.cc {σ : St} {b : Nat} {q : Rat} (h : QB σ b q) : cellsAt σ (.ptr b 0) 3 = some (rqC q) := by simp [cellsAt, (show σ.get b = _ from h), rqC, getCells, takeN, dropN]
theorem QB.st {σ : St} {b : Nat} {cs : List AV} (h : ∃ a b' c, cs = [a, b', c]) (hg : σ.get b = some ⟨cs, 3, false⟩) (q : Rat) : ∃ σ', storeCellsA σ b 0 (rqC q) = some σ' ∧ QB σ' b q ∧ σ'.n = σ.n ∧ ∀ d, d ≠ b → σ'.get d = σ.get d := by
  obtain ⟨a, b', c, rfl⟩ := h
  refine ⟨σ.set b ⟨rqC q, 3, false⟩, ?_, get_set_eq hg, rfl, fun d hd => get_set_ne (fun e => hd e.symm)⟩
  simp [storeCellsA, hg, rqC, putN, overN, allOne, AV.one, NA]
/-- The cost up to a level. -/
def costQ (K : Nat) (ws : List Nat) : Nat → Rat
  | 0 => mkRat 0 1
  | d + 1 => costQ K ws d + mkRat (d * (lvl K ws d).length : Nat) (2 ^ d)
theorem cost_bd {K : Nat} (hK : K ≤ 6) {ws : List Nat} (hl : ws.length ≤ 5) : ∀ d, d ≤ 7 → Bd (8 * d + 1) (costQ K ws d)
  | 0, _ => by
    have := low_bd (k := 1) (b := false) (n := 0) (d := 1) (by decide) (by decide) (by decide)
    exact this
  | d + 1, h => by
    have h1 := cost_bd hK hl d (by omega)
    have hlv := Nat.le_trans (lvF_len (K - d) ws 0) hl
    have h2 : Bd 7 (mkRat (d * (lvl K ws d).length : Nat) (2 ^ d)) := by
      have hm : d * (lvl K ws d).length ≤ 6 * 5 := Nat.mul_le_mul (by omega) hlv
      have hp : 2 ^ d ≤ 2 ^ 6 := Nat.pow_le_pow_right (by decide) (by omega)
      have := low_bd (k := 7) (b := false) (n := d * (lvl K ws d).length) (d := 2 ^ d) (by have := Nat.two_pow_pos d; omega) (by omega) (by omega)
      exact this
    have := h1.add h2
    rw [costQ]
    exact this.mono (by omega)

noncomputable def b53 : Code := Tryd.f53.body.getD .skip
noncomputable def B53_0 : Code := (bodyC (bodyC (sndC (fstC (sndC (sndC (sndC b53)))))))
noncomputable def K53_0 : List It := .lp B53_0 :: .blk 0 :: .code (sndC (sndC (sndC (sndC b53)))) :: []
theorem xl53_0 {fi : FI} {env : Env} {σ : St} : exI TT fi K53_0 env σ = exI TT fi (.code B53_0 :: K53_0) env σ := by unfold K53_0; exact xI_lp
noncomputable def R53_0_0 : List It := .code (sndC (sndC (sndC (sndC b53)))) :: []
theorem eK53_0_0 : exitA 0 K53_0 = some R53_0_0 := rfl
set_option maxHeartbeats 1000000 in
theorem l53 (K : Nat) (hK : K ≤ 6) (ws : List Nat) (hl : ws.length ≤ 5) : ∀ (m d : Nat) (σ : St), d + m = K + 1 → QB σ 1 (costQ K ws d) → σ.get 0 = some ⟨[.int .i64 0, .int .i64 0], 2, false⟩ →
    ∃ (σ' : St), exI TT (FI.of Tryd.f53 (TT.an 53)) K53_0 [(2, .ptr 0 0), (4, .ptr 1 0), (13, .lst (K + 1) (lvA (lvls K ws (K + 1)))), (14, .int .i64 (K + 1 : Nat)), (15, .int .i64 d)] σ = exI TT (FI.of Tryd.f53 (TT.an 53)) R53_0_0 [(2, .ptr 0 0), (4, .ptr 1 0), (13, .lst (K + 1) (lvA (lvls K ws (K + 1)))), (14, .int .i64 (K + 1 : Nat)), (15, .int .i64 (K + 1 : Nat)), (16, .bool false)] σ' ∧ QB σ' 1 (costQ K ws (K + 1)) ∧ σ'.get 0 = some ⟨[.int .i64 0, .int .i64 0], 2, false⟩ := by
  intro m
  induction m with
  | zero =>
    intro d σ hd hb h0
    obtain rfl : d = K + 1 := by omega
    refine ⟨σ, ?_, hb, h0⟩
    generalize lvA (lvls K ws (K + 1)) = cs at *
    generalize K + 1 = Q at *
    rw [fi53]
    conv => lhs; rw [xl53_0]
    simp only [B53_0, b53, Tryd.f53, Option.getD, fstC, sndC, bodyC, thnC, elsC]
    simp [xI_seq, xI_region, xI_ret, regA, regOps, runOps, opStep, wantedA, opA, evo, evos, calleeA, lk, nif_eq, putE, paramsE, valS, val2, keepE, restrict, finA, resA, binA, binInt, ofConst, ofConst1, loadA, TK.isAgg, asVar, unA, builtinA, lenOpA, lenA, ileb_cast, ileb_eq, ieqb_dec, indexAddrA, inB_dec, evPairs, storeA, AV.cellsOf, pairsOf, xI_nil, binBool, gcE, evOpt, tagZ, xI_block, xI_loopH, xI_condM, xI_exitM, xI_skip, xI_blk, exitA, ty2, ty3, ty4, ty24, ty78, ty81, ty131, eK53_0_0]
  | succ m ih =>
    intro d σ hd hb h0
    have hlv := Nat.le_trans (lvF_len (K - d) ws 0) hl
    replace hlv : (lvl K ws d).length ≤ 5 := hlv
    have hp : 2 ^ d ≤ 2 ^ 6 := Nat.pow_le_pow_right (by decide) (by omega)
    have hp1 := Nat.two_pow_pos d
    have hm : d * (lvl K ws d).length ≤ 6 * 5 := Nat.mul_le_mul (by omega) hlv
    have rd : ∀ σ : St, cellsAt σ (.lp (lvA (lvls K ws (K + 1))) d) 1 = some [.lst (lvl K ws d).length (ints (nints (lvl K ws d)))] := fun σ => lvA_read (lvls_get K ws (by omega))
    have c1 : ∀ σ, callI TT 93 [.lst (lvl K ws d).length (ints (nints (lvl K ws d)))] σ = some (.int .i64 (lvl K ws d).length, σ) := fun σ => v93 (nints (lvl K ws d)) (lvl K ws d).length σ [.lst (lvl K ws d).length (ints (nints (lvl K ws d)))] rfl
    have c2 : ∀ σ, callI TT 104 [.int .i64 (d * (lvl K ws d).length : Nat), .int .i64 (2 ^ d : Nat)] σ = some (RT (mkRat (d * (lvl K ws d).length : Nat) (2 ^ d)), σ) := fun σ => (r104 (n := ((d * (lvl K ws d).length : Nat) : Int)) (d := 2 ^ d) (by omega) (by omega) (by omega) (by omega)).pure σ rfl rfl
    have b1 := cost_bd hK hl d (by omega)
    have b2 : Bd 7 (mkRat (d * (lvl K ws d).length : Nat) (2 ^ d)) := low_bd (k := 7) (b := false) (n := d * (lvl K ws d).length) (d := 2 ^ d) (by omega) (by omega) (by omega)
    have c3 : ∀ σ, callI TT 103 [RT (costQ K ws d), RT (mkRat (d * (lvl K ws d).length : Nat) (2 ^ d))] σ = some (RT (costQ K ws (d + 1)), σ) := fun σ => (r103 (k := 57) (b1.mono (by omega)) (b2.mono (by omega)) (by decide)).pure σ rfl rfl
    have cc := hb.cc
    obtain ⟨σ1, s1, hb1, n1, o1⟩ := QB.st (σ := σ) (b := 1) ⟨_, _, _, rfl⟩ hb (costQ K ws (d + 1))
    obtain ⟨σ', h1, h2, h3⟩ := ih (d + 1) σ1 (by omega) hb1 ((o1 0 (by decide)).trans h0)
    refine ⟨σ', ?_, h2, h3⟩
    rw [← h1, show ((d + 1 : Nat) : Int) = (d : Int) + 1 by omega]
    clear h1 h2 h3 ih hb hb1 b1 b2 h0
    have hlt : (d : Int) < ((K + 1 : Nat) : Int) := by omega
    have hlt2 : d < K + 1 := by omega
    have hnl : ¬ K + 1 ≤ d := by omega
    have hw : wrapA .i64 ((d : Int) + 1) = (d : Int) + 1 := wrapA_id (by omega) (by omega)
    have hw2 : wrapA .i64 ((d : Int) * ((lvl K ws d).length : Int)) = ((d * (lvl K ws d).length : Nat) : Int) := by rw [← Int.natCast_mul, wrapA_id (by omega) (by omega)]
    have s2 := sh_1 (b := d) (by omega)
    rw [show pw d = 2 ^ d from rfl] at s2
    have hd0 : ¬ (d : Int) < 0 := by omega
    simp only [RT] at c2 c3
    unfold rqC at cc s1
    generalize mkRat (d * (lvl K ws d).length : Nat) (2 ^ d) = q2 at *
    generalize costQ K ws (d + 1) = q3 at *
    generalize costQ K ws d = q1 at *
    generalize d * (lvl K ws d).length = M at *
    generalize lvA (lvls K ws (K + 1)) = cs at *
    generalize ints (nints (lvl K ws d)) = ls at *
    generalize (lvl K ws d).length = m1 at *
    generalize 2 ^ d = P at *
    have ex1 := NA_eqv (nm q1)
    have ex2 := NA_eqv q1.den
    generalize NA (nm q1) = x1 at *
    generalize NA q1.den = x2 at *
    generalize NA (nm q2) = x3 at *
    generalize NA q2.den = x4 at *
    generalize NA (nm q3) = x5 at *
    generalize NA q3.den = x6 at *
    generalize K + 1 = Q at *
    rw [fi53]
    conv => lhs; rw [xl53_0]
    simp only [B53_0, b53, Tryd.f53, Option.getD, fstC, sndC, bodyC, thnC, elsC]
    simp [xI_seq, xI_region, xI_ret, regA, regOps, runOps, opStep, wantedA, opA, evo, evos, calleeA, lk, nif_eq, putE, paramsE, valS, val2, keepE, restrict, finA, resA, binA, binInt, ofConst, ofConst1, loadA, TK.isAgg, asVar, unA, builtinA, lenOpA, lenA, ileb_cast, ileb_eq, ieqb_dec, indexAddrA, inB_dec, evPairs, storeA, AV.cellsOf, pairsOf, xI_nil, binBool, gcE, evOpt, tagZ, xI_block, xI_loopH, xI_condM, xI_exitM, xI_skip, xI_blk, exitA, ty2, ty3, ty4, ty24, ty78, ty81, ty131, eK53_0_0, runTr, pairsOk, pairOk, lstAt, lastOf, sameVal, AV.eqv, eqvs, eqvs_ints, regOps, blt_dec, cond_true, cond_false, fieldAddrA, allOne, AV.one, buildA, sizesOf, fillA, putCells, n_push, indexA, ty2, ty27, ty9, ty5, ty3, ty36, ty24, ty81, ty131, hlt, hlt2, hnl, hw, hw2, s2, hd0, rd, c1, c2, c3, cc, s1, ex1, ex2]

theorem v53 {K : Nat} {ws : List Nat} (h : Dya K ws) : FnV TT 53 [.lst ws.length (ints (nints ws))] (frA (costQ K ws (K + 1))) := by
  have hK := h.2.1
  obtain ⟨σ0, e0⟩ : ∃ σ0, (⟨[], 0⟩ : St).push ⟨[.int .i64 0, .int .i64 0], 2, false⟩ = σ0 := ⟨_, rfl⟩
  have n0 : σ0.n = 1 := by subst e0; rfl
  have g0 : σ0.get 0 = some ⟨[.int .i64 0, .int .i64 0], 2, false⟩ := by subst e0; exact get_push_same
  obtain ⟨σ1, e1⟩ : ∃ σ1, σ0.push ⟨[.bool false, .nilS, .nilS], 3, false⟩ = σ1 := ⟨_, rfl⟩
  have g1 : σ1.get 1 = some ⟨[.bool false, .nilS, .nilS], 3, false⟩ := by subst e1; rw [← n0]; exact get_push_same
  have g10 : σ1.get 0 = some ⟨[.int .i64 0, .int .i64 0], 2, false⟩ := by subst e1; rw [get_push_lt (by omega)]; exact g0
  obtain ⟨σ2, s2, hb2, n2, o2⟩ := QB.st (σ := σ1) (b := 1) ⟨_, _, _, rfl⟩ g1 (costQ K ws 0)
  obtain ⟨σ3, h1, hb3, h30⟩ := l53 K hK ws h.2.2.2 (K + 1) 0 σ2 (by omega) hb2 ((o2 0 (by decide)).trans g10)
  have c1 : ∀ σ, callI TT 55 [.lst ws.length (ints (nints ws))] σ = some (.bool true, σ) := fun σ => v55 h σ [.lst ws.length (ints (nints ws))] rfl
  have c2 : ∀ σ, callI TT 102 [.lst ws.length (ints (nints ws))] σ = some (.lst (K + 1) (lvA (lvls K ws (K + 1))), σ) := fun σ => v102 h σ [.lst ws.length (ints (nints ws))] rfl rfl
  have c3 : ∀ σ, callI TT 101 [.int .i64 0] σ = some (RT (mkRat 0 1), σ) := fun σ => (r101 (n := 0) (by decide) (by decide)).pure σ rfl rfl
  have hbd := cost_bd hK h.2.2.2 (K + 1) (by omega)
  have c4 : ∀ σ, callI TT 105 [RT (costQ K ws (K + 1))] σ = some (frA (costQ K ws (K + 1)), σ) := fun σ => r105 hbd (by omega) σ [RT (costQ K ws (K + 1))] rfl
  have cc := hb3.cc
  have hfin : ∃ σ', exI TT (FI.of Tryd.f53 (TT.an 53)) R53_0_0 [(2, .ptr 0 0), (4, .ptr 1 0), (13, .lst (K + 1) (lvA (lvls K ws (K + 1)))), (14, .int .i64 (K + 1 : Nat)), (15, .int .i64 (K + 1 : Nat)), (16, .bool false)] σ3 = some (frA (costQ K ws (K + 1)), σ') := by
    generalize costQ K ws (K + 1) = q at *
    obtain ⟨x, y, b, hfr⟩ : ∃ (x y : Int) (b : Bool), frA q = .tup [.agg [.int .i64 x, .int .i64 y], .bool b] := by
      unfold frA; split
      · exact ⟨_, _, _, rfl⟩
      · exact ⟨_, _, _, rfl⟩
    rw [hfr] at c4 ⊢
    have s4 : storeCellsA σ3 0 0 [.int .i64 x, .int .i64 y] = some (σ3.set 0 ⟨[.int .i64 x, .int .i64 y], 2, false⟩) := by
      simp [storeCellsA, h30, putN, overN, allOne, AV.one]
    have g4 : cellsAt (σ3.set 0 ⟨[.int .i64 x, .int .i64 y], 2, false⟩) (.ptr 0 0) 2 = some [.int .i64 x, .int .i64 y] := by
      simp [cellsAt, get_set_eq h30, getCells, takeN, dropN]
    refine ⟨σ3.set 0 ⟨[.int .i64 x, .int .i64 y], 2, false⟩, ?_⟩
    clear h1 c1 c2 c3 hbd hb3
    simp only [RT] at c4
    unfold rqC at cc
    generalize lvA (lvls K ws (K + 1)) = cs at *
    generalize NA (nm q) = x1 at *
    generalize NA q.den = x2 at *
    generalize K + 1 = Q at *
    rw [fi53]
    simp only [R53_0_0, b53, Tryd.f53, Option.getD, fstC, sndC, bodyC, thnC, elsC]
    simp [xI_seq, xI_region, xI_ret, regA, regOps, runOps, opStep, wantedA, opA, evo, evos, calleeA, lk, nif_eq, putE, paramsE, valS, val2, keepE, restrict, finA, resA, binA, binInt, ofConst, ofConst1, loadA, TK.isAgg, asVar, unA, builtinA, lenOpA, lenA, ileb_cast, ileb_eq, ieqb_dec, indexAddrA, inB_dec, evPairs, storeA, AV.cellsOf, pairsOf, xI_nil, binBool, gcE, evOpt, tagZ, xI_block, xI_loopH, xI_condM, xI_exitM, xI_skip, xI_blk, exitA, ty2, ty3, ty4, ty24, ty78, ty81, ty131, eK53_0_0, runTr, pairsOk, pairOk, lstAt, lastOf, sameVal, AV.eqv, eqvs, eqvs_ints, regOps, blt_dec, cond_true, cond_false, fieldAddrA, allOne, AV.one, buildA, sizesOf, fillA, putCells, n_push, indexA, ty2, ty27, ty9, ty5, ty3, ty36, ty131, ty78, cc, c4, s4, g4]
  obtain ⟨σ', hf⟩ := hfin
  refine FnV.mk fn53 rfl md53 ⟨σ', ?_⟩ (fun _ => by unfold frA; split <;> rfl) (by unfold frA; split <;> rfl)
  rw [← hf, ← h1]
  clear h1 hf c4 cc hb3 hb2 hbd
  rw [show ((0 : Nat) : Int) = 0 from rfl]
  rw [show costQ K ws 0 = mkRat 0 1 from rfl] at s2
  unfold rqC at s2
  simp only [RT] at c3
  generalize mkRat 0 1 = q at *
  generalize NA (nm q) = x1 at *
  generalize NA q.den = x2 at *
  generalize lvA (lvls K ws (K + 1)) = cs at *
  generalize ints (nints ws) = cw at *
  generalize ws.length = n at *
  generalize K + 1 = Q at *
  rw [fi53]
  simp [xI_seq, xI_region, xI_ret, regA, regOps, runOps, opStep, wantedA, opA, evo, evos, calleeA, lk, nif_eq, putE, paramsE, valS, val2, keepE, restrict, finA, resA, binA, binInt, ofConst, ofConst1, loadA, TK.isAgg, asVar, unA, builtinA, lenOpA, lenA, ileb_cast, ileb_eq, ieqb_dec, indexAddrA, inB_dec, evPairs, storeA, AV.cellsOf, pairsOf, xI_nil, binBool, gcE, evOpt, tagZ, xI_block, xI_loopH, xI_condM, xI_exitM, xI_skip, xI_blk, exitA, ty2, ty3, ty4, ty24, ty78, ty81, ty131, eK53_0_0, runTr, pairsOk, pairOk, lstAt, lastOf, sameVal, AV.eqv, eqvs, eqvs_ints, regOps, blt_dec, cond_true, cond_false, fieldAddrA, allOne, AV.one, buildA, sizesOf, fillA, putCells, n_push, indexA, ty2, ty27, ty9, ty5, ty3, ty36, ty131, ty78, e0, n0, e1, s2, c1, c2, c3]
  rfl

end Go.Proofs.YthkdbkjkccogfaaDoor
