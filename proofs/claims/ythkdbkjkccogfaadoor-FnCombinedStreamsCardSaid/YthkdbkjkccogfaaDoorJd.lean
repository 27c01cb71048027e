/- Contracts: drawn registers. Nothing is claimed here; no condition. -/
import Derived.Test.YthkdbkjkccogfaaDoorJc
namespace Go.Proofs.YthkdbkjkccogfaaDoor
open Go Go.Abs
set_option linter.unusedSimpArgs false
set_option linter.unusedVariables false
open Go.Wd
def rgs : List (Nat × Nat) → List AV
  | [] => []
  | q :: r => .int .i64 (q.1 : Int) :: .int .i64 (q.2 : Int) :: rgs r
theorem rgs_length : ∀ R, (rgs R).length = R.length * 2
  | [] => rfl
  | q :: r => by simp only [rgs, List.length_cons, rgs_length r]; omega
theorem rgs_append : ∀ (R : List (Nat × Nat)) (q : Nat × Nat), rgs (R ++ [q]) = rgs R ++ [.int .i64 (q.1 : Int), .int .i64 (q.2 : Int)]
  | [], q => rfl
  | a :: r, q => by rw [List.cons_append, rgs, rgs, rgs_append r q]; rfl
theorem rgs_drop : ∀ (R : List (Nat × Nat)) (i : Nat), (rgs R).drop (i * 2) = rgs (R.drop i)
  | [], i => by simp [rgs]
  | q :: r, 0 => by simp
  | q :: r, i + 1 => by
    rw [show (i + 1) * 2 = i * 2 + 1 + 1 by omega, rgs, List.drop_succ_cons, List.drop_succ_cons, rgs_drop r i, List.drop_succ_cons]
theorem rgs_read {R : List (Nat × Nat)} {i w t : Nat} {σ : St} (h : R[i]? = some (w, t)) : cellsAt σ (.lp (rgs R) (i * 2)) 2 = some [.int .i64 w, .int .i64 t] := by
  obtain ⟨hi, hx⟩ := List.getElem?_eq_some_iff.1 h
  show getCells (rgs R) (i * 2) 2 = _
  rw [getCells_eq, if_pos (by rw [rgs_length]; omega), rgs_drop, List.drop_eq_getElem_cons hi, hx]
  rfl
theorem getCells_rgs {R : List (Nat × Nat)} {n : Nat} (h : n = R.length) : getCells (rgs R) 0 (n * 2) = some (rgs R) := by
  subst h
  rw [getCells_eq, if_pos (by rw [rgs_length]; omega), List.drop_zero, List.take_of_length_le (by rw [rgs_length]; omega)]
theorem frz_rgs {σ : St} {d : Nat} : ∀ R, mapO (frzV σ (d + 1)) (rgs R) = some (rgs R)
  | [] => rfl
  | q :: r => mapO_cons rfl (mapO_cons rfl (frz_rgs r))
def QRow (σ : St) (b : Nat) (R : List (Nat × Nat)) : Prop := ∃ o, σ.get b = some ⟨rgs R, 2, o⟩ ∧ b < σ.n
theorem QRow.lt {σ : St} {b : Nat} {R : List (Nat × Nat)} (h : QRow σ b R) : b < σ.n := by obtain ⟨_, _, h⟩ := h; exact h
theorem QRow.keep {σ σ' : St} {b : Nat} {R : List (Nat × Nat)} (h : QRow σ b R) (hn : σ.n ≤ σ'.n) (he : σ'.get b = σ.get b) : QRow σ' b R := by
  obtain ⟨o, h, hlt⟩ := h; exact ⟨o, by rw [he]; exact h, by omega⟩
theorem QRow.frz {σ : St} {b : Nat} {R : List (Nat × Nat)} {d n : Nat} (h : QRow σ b R) (hn : n = R.length) : frzV σ (d + 2) (.sl b 0 n n) = some (.lst n (rgs R)) := by
  obtain ⟨o, hg, _⟩ := h
  unfold frzV
  simp only [hg, show 2 % 7000000000 = 2 from rfl, getCells_rgs hn, frz_rgs, Nat.le_refl, if_true]
theorem qb1 (σ : St) (w t : Nat) : buildSliceA TT σ 65 1 [(0, .agg [.int .i64 w, .int .i64 t])] = some (.sl σ.n 0 1 1, σ.push ⟨[.int .i64 w, .int .i64 t], 2, false⟩) := by
  simp [buildSliceA, ty65, ty27, fillA, repeatCells, putCells, AV.cellsOf, allOne, AV.one]
theorem qb0 (σ : St) : buildSliceA TT σ 65 0 [] = some (.sl σ.n 0 0 0, σ.push ⟨rgs [], 2, false⟩) := by
  simp [buildSliceA, ty65, ty27, fillA, repeatCells, rgs]
theorem qappend {σ : St} {b n : Nat} {R : List (Nat × Nat)} {w t : Nat} (hb : QRow σ b R) (hn : n = R.length) (hs : n < 1000000) :
    ∃ σ', appendA TT (σ.push ⟨[.int .i64 w, .int .i64 t], 2, false⟩) 65 65 (.sl b 0 n n) (.sl σ.n 0 1 1) = some (.sl (σ.n + 1) 0 (n + 1) (n + 1), σ') ∧ QRow σ' (σ.n + 1) (R ++ [(w, t)]) ∧ σ'.n = σ.n + 2 ∧ ∀ c, c ≠ b → c < σ.n → σ'.get c = σ.get c := by
  obtain ⟨o, hg0, hbn⟩ := hb
  have hg : (σ.push ⟨[.int .i64 w, .int .i64 t], 2, false⟩).get b = some ⟨rgs R, 2, o⟩ := by rw [get_push_lt hbn]; exact hg0
  have h1 : firstA (σ.push ⟨[.int .i64 w, .int .i64 t], 2, false⟩) 2 1 (.sl σ.n 0 1 1) = some [.int .i64 w, .int .i64 t] := by
    simp [firstA, get_push_same, getCells, dropN, takeN]
  have ha : appendA TT (σ.push ⟨[.int .i64 w, .int .i64 t], 2, false⟩) 65 65 (.sl b 0 n n) (.sl σ.n 0 1 1) =
      some (.sl (σ.n + 1) 0 (n + 1) (n + 1), (if o then (σ.push ⟨[.int .i64 w, .int .i64 t], 2, false⟩).del b else σ.push ⟨[.int .i64 w, .int .i64 t], 2, false⟩).push ⟨rgs (R ++ [(w, t)]), 2, true⟩) := by
    unfold appendA
    simp only [ty65, ty27, lenA, h1, allOne, AV.one, Bool.and_self, hg, getCells_rgs hn, rgs_length]
    rw [if_neg (by simp), if_neg (by omega), if_pos ⟨by omega, by omega, trivial, by omega, by omega⟩]
    cases o <;> simp [n_push, rgs_append, growE]
  refine ⟨_, ha, ⟨true, ?_, ?_⟩, ?_, ?_⟩
  · cases o <;> exact get_push_same
  · cases o <;> simp [n_push, n_del]
  · cases o <;> rfl
  · intro c hc hcn
    have hd : ∀ τ : St, τ.n = σ.n + 1 → (τ.push ⟨rgs (R ++ [(w, t)]), 2, true⟩).get c = τ.get c := fun τ h => get_push_lt (by omega)
    cases o
    · simp only [Bool.false_eq_true, if_false]
      rw [hd _ rfl, get_push_lt hcn]
    · simp only [if_true]
      rw [hd _ rfl, get_del_ne (fun e => hc e.symm), get_push_lt hcn]
/-- Registers of small widths. -/
def Rgd (R : List (Nat × Nat)) : Prop := ∀ q ∈ R, 1 ≤ q.1 ∧ q.1 ≤ 3 ∧ q.2 < pw q.1

noncomputable def b42 : Code := Tryd.f42.body.getD .skip
noncomputable def B42_0 : Code := (bodyC (bodyC (sndC (fstC (sndC (sndC (sndC b42)))))))
noncomputable def K42_0 : List It := .lp B42_0 :: .blk 0 :: .code (sndC (sndC (sndC (sndC b42)))) :: []
theorem xl42_0 {fi : FI} {env : Env} {σ : St} : exI TT fi K42_0 env σ = exI TT fi (.code B42_0 :: K42_0) env σ := by unfold K42_0; exact xI_lp
noncomputable def R42_0_0 : List It := .code (sndC (sndC (sndC (sndC b42)))) :: []
theorem eK42_0_0 : exitA 0 K42_0 = some R42_0_0 := rfl
set_option maxHeartbeats 1000000 in
theorem l42 (c : List Nat) (hc : ∀ x ∈ c, x < 256) (hcl : c.length ≤ 1000) (s n : Nat) (hn : n ≤ 4) : ∀ (m k kk mm : Nat) (σ : St) (b : Nat) (R : List (Nat × Nat)), k + m = n → k = R.length → kk + 4 * m ≤ 900000 → SRC σ s c kk mm → s ≠ b → QRow σ b R → Rgd R →
    ∃ (σ' : St) (b' : Nat) (R' : List (Nat × Nat)), exI TT (FI.of Tryd.f42 (TT.an 42)) K42_0 [(1, .int .i64 n), (5, .ptr s 0), (6, .sl b 0 k k), (7, .int .i64 k)] σ = some (.sl b' 0 n n, σ') ∧ QRow σ' b' R' ∧ n = R'.length ∧ Rgd R' := by
  intro m
  induction m with
  | zero =>
    intro k kk mm σ b R hk hR hkk hS hsb hr hg
    obtain rfl : k = n := by omega
    refine ⟨σ, b, R, ?_, hr, hR, hg⟩
    rw [fi42]
    rw [xl42_0]
    simp only [B42_0, b42, Tryd.f42, Option.getD, fstC, sndC, bodyC, thnC, elsC]
    simp [xI_seq, xI_region, xI_ret, regA, regOps, runOps, opStep, wantedA, opA, evo, evos, calleeA, lk, nif_eq, putE, paramsE, valS, val2, keepE, restrict, finA, resA, binA, binInt, ofConst, ofConst1, loadA, TK.isAgg, asVar, unA, builtinA, lenOpA, lenA, ileb_cast, ileb_eq, ieqb_dec, indexAddrA, inB_dec, evPairs, storeA, AV.cellsOf, pairsOf, xI_nil, binBool, gcE, evOpt, tagZ, xI_block, xI_loopH, xI_condM, xI_exitM, xI_skip, xI_blk, exitA, ty2, ty27, ty36, ty65, eK42_0_0]
    simp only [R42_0_0, b42, Tryd.f42, Option.getD, fstC, sndC, bodyC, thnC, elsC]
    simp [xI_seq, xI_region, xI_ret, regA, regOps, runOps, opStep, wantedA, opA, evo, evos, calleeA, lk, nif_eq, putE, paramsE, valS, val2, keepE, restrict, finA, resA, binA, binInt, ofConst, ofConst1, loadA, TK.isAgg, asVar, unA, builtinA, lenOpA, lenA, ileb_cast, ileb_eq, ieqb_dec, indexAddrA, inB_dec, evPairs, storeA, AV.cellsOf, pairsOf, xI_nil, binBool, gcE, evOpt, tagZ, xI_block, xI_loopH, xI_condM, xI_exitM, xI_skip, xI_blk, exitA, ty2, ty27, ty36, ty65, eK42_0_0]
  | succ m ih =>
    intro k kk mm σ b R hk hR hkk hS hsb hr hg
    obtain ⟨r, k2, m2, σ2, c2, hr2, S2, hk2, n2, u2⟩ := c66 c hc hcl kk mm (by omega) 3 (by decide) σ s hS
    replace hr2 : r < 3 := by omega
    have hs2 := S2.1
    have hrow2 := hr.keep (Nat.le_of_eq n2.symm) (u2 b (fun e => hsb e.symm))
    have hbl := hrow2.lt
    obtain ⟨σ4, e4⟩ : ∃ σ4, σ2.push ⟨[.int .i64 0, .int .i64 0], 2, false⟩ = σ4 := ⟨_, rfl⟩
    have n4 : σ4.n = σ2.n + 1 := by subst e4; rfl
    obtain ⟨D0, hD⟩ : ∃ D0, σ2.n = D0 := ⟨_, rfl⟩
    have Q4 : RGB σ4 D0 0 0 := by
      have h := get_push_same (σ := σ2) (x := ⟨[.int .i64 0, .int .i64 0], 2, false⟩)
      rw [hD] at h; subst e4; exact h
    obtain ⟨w, hw⟩ : ∃ w, w = 1 + r := ⟨_, rfl⟩
    obtain ⟨σ5, c5, Q5, n5, u5⟩ := Q4.s2 w 0
    have S5 := S2.keep (σ' := σ5) (by omega) ((u5 s (by omega)).trans (by subst e4; exact get_push_lt hs2))
    have hrow5 := hrow2.keep (σ' := σ5) (by omega) ((u5 b (by omega)).trans (by subst e4; exact get_push_lt hbl))
    have q5 := Q5.c0
    have hp2 : pw w ≤ 2 ^ 3 := Nat.pow_le_pow_right (by decide) (by omega)
    have hp1 := pw_pos w
    obtain ⟨t, k6, m6, σ6, c6, ht, S6, hk6, n6, u6⟩ := c66 c hc hcl k2 m2 (by omega) (pw w) (by omega) σ5 s S5
    replace ht : t < pw w := by omega
    have Q6 := Q5.keep (u6 D0 (by omega))
    obtain ⟨σ7, c7, Q7, n7, u7⟩ := Q6.s1 t
    have S7 := S6.keep (σ' := σ7) (by omega) (u7 s (by omega))
    have q7 := Q7.cc
    have hrow7 := hrow5.keep (σ' := σ7) (by omega) ((u7 b (by omega)).trans (u6 b (fun e => hsb e.symm)))
    obtain ⟨σ9, a9, r9, n9, u9⟩ := qappend (w := w) (t := t) hrow7 hR (by omega)
    have S9 := S7.keep (σ' := σ9) (by omega) (u9 s hsb S7.1)
    have hs7 := S7.1
    obtain ⟨σ', b', R', h1, h2, h3, h4⟩ := ih (k + 1) k6 m6 σ9 (σ7.n + 1) (R ++ [(w, t)]) (by omega) (by simp; omega) (by omega) S9 (by omega) r9 (by
      intro q hq
      rcases List.mem_append.1 hq with hq | hq
      · exact hg q hq
      · rw [List.mem_singleton.1 hq]; exact ⟨by show 1 ≤ w; omega, by show w ≤ 3; omega, ht⟩)
    refine ⟨σ', b', R', ?_, h2, h3, h4⟩
    rw [← h1, show ((k + 1 : Nat) : Int) = (k : Int) + 1 by omega]
    clear h1 ih h2 h3 h4
    have hw1 : wrapA .i64 (1 + (r : Int)) = (w : Int) := by rw [wrapA_id (by omega) (by omega)]; omega
    have hwk : wrapA .i64 ((k : Int) + 1) = (k : Int) + 1 := wrapA_id (by omega) (by omega)
    have s1 := sh_1 (b := w) (by omega)
    have s2 : wrapA .u64 (w : Int) = (w : Int) := n_wrapu (by omega)
    have convU : ∀ σ, convA TT σ 2 36 (.int .i64 (w : Int)) = some (.int .u64 (w : Int), σ) := fun σ => by simp [convA, ty2, ty36, s2]
    have hlt : (k : Int) < (n : Int) := by omega
    have hlt2 : k < n := by omega
    have hnl : ¬ n ≤ k := by omega
    simp only [show ((3 : Nat) : Int) = 3 from rfl] at c2
    generalize pw w = P at *
    rw [fi42]
    conv => lhs; rw [xl42_0]
    simp only [B42_0, b42, Tryd.f42, Option.getD, fstC, sndC, bodyC, thnC, elsC]
    simp [xI_seq, xI_region, xI_ret, regA, regOps, runOps, opStep, wantedA, opA, evo, evos, calleeA, lk, nif_eq, putE, paramsE, valS, val2, keepE, restrict, finA, resA, binA, binInt, ofConst, ofConst1, loadA, TK.isAgg, asVar, unA, builtinA, lenOpA, lenA, ileb_cast, ileb_eq, ieqb_dec, indexAddrA, inB_dec, evPairs, storeA, AV.cellsOf, pairsOf, xI_nil, binBool, gcE, evOpt, tagZ, xI_block, xI_loopH, xI_condM, xI_exitM, xI_skip, xI_blk, exitA, ty2, ty27, ty36, ty65, eK42_0_0, runTr, pairsOk, pairOk, lstAt, lastOf, sameVal, AV.eqv, eqvs, eqvs_ints, regOps, blt_dec, cond_true, cond_false, fieldAddrA, allOne, AV.one, buildA, sizesOf, fillA, putCells, n_push, indexA, ty2, ty27, ty9, ty5, ty3, ty36, ty65, hw1, hwk, s1, convU, c2, e4, hD, c5, q5, c6, c7, q7, qb1, a9, hlt, hlt2, hnl]
theorem v42 (c : List Nat) (hc : ∀ x ∈ c, x < 256) (hcl : c.length ≤ 1000) (n : Nat) (hn : n ≤ 4) : ∃ R : List (Nat × Nat), n = R.length ∧ Rgd R ∧ FnF TT 42 [.lst c.length (byts c), .int .i64 n] (.lst n (rgs R)) := by
  obtain ⟨σ1, c1, S1, n1, o1⟩ := c65 c ⟨[], 0⟩
  have hs1 := S1.1
  replace n1 : σ1.n = 1 := n1
  obtain ⟨σ', b', R', h1, h2, h3, h4⟩ := l42 c hc hcl 0 n hn n 0 0 0 (σ1.push ⟨rgs [], 2, false⟩) σ1.n [] (by omega) rfl (by omega) (S1.keep (by simp [n_push]) (get_push_lt (by omega))) (by omega) ⟨false, get_push_same, Nat.lt_succ_self _⟩ (fun q hq => by cases hq)
  refine ⟨R', h3, h4, FnF.mk fn42 rfl md42 ⟨σ', .sl b' 0 n n, ?_, h2.frz h3⟩⟩
  simp only [show ((0 : Nat) : Int) = 0 from rfl] at h1
  rw [← h1, fi42]
  simp [xI_seq, xI_region, xI_ret, regA, regOps, runOps, opStep, wantedA, opA, evo, evos, calleeA, lk, nif_eq, putE, paramsE, valS, val2, keepE, restrict, finA, resA, binA, binInt, ofConst, ofConst1, loadA, TK.isAgg, asVar, unA, builtinA, lenOpA, lenA, ileb_cast, ileb_eq, ieqb_dec, indexAddrA, inB_dec, evPairs, storeA, AV.cellsOf, pairsOf, xI_nil, binBool, gcE, evOpt, tagZ, xI_block, xI_loopH, xI_condM, xI_exitM, xI_skip, xI_blk, exitA, ty2, ty27, ty36, ty65, eK42_0_0, c1, qb0]
  rfl

end Go.Proofs.YthkdbkjkccogfaaDoor
