/- The law of rolls of trees. Nothing is claimed here; no condition. -/
import Derived.Test.YthkdbkjkccogfaaDoorKd
namespace Go.Proofs.YthkdbkjkccogfaaDoor
open Go Go.Abs
set_option linter.unusedSimpArgs false
set_option linter.unusedVariables false
open Go.Wd
open Go.Nm
noncomputable def okT (f : Nat) (F : Func) (args : List AV) (v : AV) : Bool := match exec TT 20000 (FI.of F (TT.an f)) [.code (F.body.getD .skip)] (paramsE 0 args) ⟨[], 0⟩ with
  | some (v', _) => v'.eqv v
  | none => false
theorem okT_V {f : Nat} {F : Func} {c : Code} {args : List AV} {v : AV} (hF : TT.fn f = some F) (hB : F.body = some c) (hm : (TT.an f).mode = 1) (hs : ∀ σ1, frzV σ1 frzDepth v = some v) (hv : v.scal = true) (h : okT f F args v = true) : FnV TT f args v := by
  refine FnV.mk hF hB hm ?_ hs hv
  unfold okT at h
  rw [hB] at h
  simp only [Option.getD] at h
  cases hx : exec TT 20000 (FI.of F (TT.an f)) [.code c] (paramsE 0 args) ⟨[], 0⟩ with
  | none => rw [hx] at h; cases h
  | some r =>
    rw [hx] at h
    obtain ⟨v', σ1⟩ := r
    have := eqv_sound _ _ h
    exact ⟨σ1, by rw [exI_iff.2 ⟨20000, hx⟩, this]⟩

set_option maxRecDepth 100000 in
theorem tab_rt : ((List.range 7).all fun n => (List.range (2 ^ n)).all fun v => okT 47 Tryd.f47 [.int .i64 (v : Nat), .int .i64 (n : Nat)] (.str (bsOf n v))) = true := by kernel_rfl
theorem v47 {n v : Nat} (hn : n ≤ 6) (hv : v < 2 ^ n) : FnV TT 47 [.int .i64 v, .int .i64 n] (.str (bsOf n v)) :=
  okT_V fn47 rfl md47 (fun _ => rfl) rfl (List.all_eq_true.1 (List.all_eq_true.1 tab_rt n (List.mem_range.2 (by omega))) v (List.mem_range.2 hv))
theorem mk_same (a b : Int) {d : Nat} (hd : d ≠ 0) : mkRat a d + mkRat b d = mkRat (a + b) d := by
  rw [Rat.mkRat_add_mkRat _ _ hd hd, ← Int.add_mul]
  have := Rat.mkRat_mul_right (n := a + b) (d := d) hd
  rw [← this]
/-- The cost of a tree is what all rolls use, by their number. -/
theorem cost_used {K : Nat} {ws : List Nat} : ∀ d, d ≤ K + 1 → costQ K ws d = mkRat (usedN K ws d : Nat) (2 ^ K)
  | 0, _ => by
    rw [costQ, usedN]
    rw [show ((0 : Nat) : Int) = 0 from rfl, Rat.zero_mkRat, Rat.zero_mkRat]
  | d + 1, h => by
    have hp := Nat.two_pow_pos (K - d)
    have hK := Nat.two_pow_pos K
    have e : 2 ^ K = 2 ^ d * 2 ^ (K - d) := by rw [← Nat.pow_add]; congr 1; omega
    have e2 : mkRat (d * (lvl K ws d).length : Nat) (2 ^ d) = mkRat ((d * (lvl K ws d).length * 2 ^ (K - d) : Nat) : Int) (2 ^ K) := by
      have := Rat.mkRat_mul_right (n := ((d * (lvl K ws d).length : Nat) : Int)) (d := 2 ^ d) (a := 2 ^ (K - d)) (by omega)
      rw [← this, ← Int.natCast_mul, e]
    rw [costQ, cost_used d (by omega), e2, mk_same _ _ (by omega), usedN, Int.natCast_add]

theorem v57 {n d : Nat} (hn : n ≤ 1000000) (hd0 : 0 < d) (hd : d ≤ 1000000) : FnV TT 57 [.int .i64 n, .int .i64 d] (.tup [.agg [.int .i64 (n / Nat.gcd n d : Nat), .int .i64 (d / Nat.gcd n d : Nat)], .bool true]) := by
  have c1 := c69 n (-1000000000000000000) 1000000000000000000
  have c2 := c69 d (-1000000000000000000) 1000000000000000000
  rw [show inR (n : Int) (-1000000000000000000) 1000000000000000000 = true from inR_iff.2 (by omega)] at c1
  rw [show inR (d : Int) (-1000000000000000000) 1000000000000000000 = true from inR_iff.2 (by omega)] at c2
  have c3 : ∀ σ, callI TT 109 [.int .i64 n] σ = some (.int .i64 n, σ) := fun σ => by
    have := v109 (n : Int) (by omega) (by omega) σ [.int .i64 n] rfl
    rwa [Int.natAbs_natCast] at this
  have c4 : ∀ σ, callI TT 108 [.int .i64 n, .int .i64 d] σ = some (.int .i64 (Nat.gcd n d : Nat), σ) := fun σ => v108 n d σ [.int .i64 n, .int .i64 d] rfl
  have hg : 0 < Nat.gcd n d := Nat.gcd_pos_of_pos_right n hd0
  have hg2 : Nat.gcd n d ≤ d := Nat.gcd_le_right n hd0
  have e1 : ((n : Nat) : Int).tdiv ((Nat.gcd n d : Nat) : Int) = ((n / Nat.gcd n d : Nat) : Int) := rfl
  have e2 : ((d : Nat) : Int).tdiv ((Nat.gcd n d : Nat) : Int) = ((d / Nat.gcd n d : Nat) : Int) := rfl
  have l1 : n / Nat.gcd n d ≤ n := Nat.div_le_self _ _
  have l2 : d / Nat.gcd n d ≤ d := Nat.div_le_self _ _
  have wz : ∀ z : Nat, z ≤ 1000000 → wrapA .i64 (z : Int) = (z : Int) := fun z h => wrapA_id (by omega) (by omega)
  have w1 : wrapA .i64 ((n / Nat.gcd n d : Nat) : Int) = ((n / Nat.gcd n d : Nat) : Int) := wz _ (Nat.le_trans l1 hn)
  have w2 : wrapA .i64 ((d / Nat.gcd n d : Nat) : Int) = ((d / Nat.gcd n d : Nat) : Int) := wz _ (Nat.le_trans l2 hd)
  obtain ⟨σ0, e0⟩ : ∃ σ0, (⟨[], 0⟩ : St).push ⟨[.int .i64 0, .int .i64 0], 2, false⟩ = σ0 := ⟨_, rfl⟩
  have Q0 : RGB σ0 0 0 0 := by subst e0; exact get_push_same
  obtain ⟨σ1, s1, Q1, _, _⟩ := Q0.s2 (n / Nat.gcd n d : Nat) (d / Nat.gcd n d : Nat)
  have q1 := Q1.cc
  refine FnV.mk fn57 rfl md57 ⟨σ1, ?_⟩ (fun _ => rfl) rfl
  have hz : ¬ (d : Int) = 0 := by omega
  have hz2 : ¬ d = 0 := by omega
  have hz3 : ¬ ((Nat.gcd n d : Nat) : Int) = 0 := by omega
  have hz4 : ¬ Nat.gcd n d = 0 := by omega
  have hneg : ¬ (d : Int) < 0 := by omega
  clear l1 l2 hg hg2 Q0 Q1
  generalize n / Nat.gcd n d = a at *
  generalize d / Nat.gcd n d = b at *
  generalize Nat.gcd n d = g at *
  rw [fi57]
  simp [xI_seq, xI_region, xI_ret, regA, regOps, runOps, opStep, wantedA, opA, evo, evos, calleeA, lk, nif_eq, putE, paramsE, valS, val2, keepE, restrict, finA, resA, binA, binInt, ofConst, ofConst1, loadA, TK.isAgg, asVar, unA, builtinA, lenOpA, lenA, ileb_cast, ileb_eq, ieqb_dec, indexAddrA, inB_dec, evPairs, storeA, AV.cellsOf, pairsOf, xI_nil, binBool, gcE, evOpt, tagZ, xI_block, xI_loopH, xI_condM, xI_exitM, xI_skip, xI_blk, exitA, ty2, ty4, ty78, runTr, pairsOk, pairOk, lstAt, lastOf, sameVal, AV.eqv, eqvs, eqvs_ints, regOps, blt_dec, cond_true, cond_false, fieldAddrA, allOne, AV.one, buildA, sizesOf, fillA, putCells, n_push, indexA, ty2, ty27, ty9, ty5, ty3, ty36, ty78, e0, c1, c2, c3, c4, e1, e2, w1, w2, s1, q1, hz, hz2, hz3, hz4, hneg]
theorem fr_same {n d : Nat} (hn : n ≤ 1000000) (hd0 : 0 < d) (hd : d ≤ 1000000) : frA (mkRat (n : Nat) d) = .tup [.agg [.int .i64 (n / Nat.gcd n d : Nat), .int .i64 (d / Nat.gcd n d : Nat)], .bool true] := by
  obtain ⟨e1, e2, e3⟩ := low_num false n d (by omega)
  rw [show sg false n = (n : Int) from rfl] at e1 e2 e3
  have l1 : n / Nat.gcd n d ≤ n := Nat.div_le_self _ _
  have l2 : d / Nat.gcd n d ≤ d := Nat.div_le_self _ _
  unfold frA
  rw [if_pos (fits_iff.2 ⟨by rw [nm, e1]; omega, by rw [e2]; omega⟩), e3, e2]
  rfl

noncomputable def b58 : Code := Tryd.f58.body.getD .skip
noncomputable def B58_0 : Code := (bodyC (bodyC (sndC (fstC (sndC (sndC b58))))))
noncomputable def K58_0 : List It := .lp B58_0 :: .blk 0 :: .code (sndC (sndC (sndC b58))) :: []
theorem xl58_0 {fi : FI} {env : Env} {σ : St} : exI TT fi K58_0 env σ = exI TT fi (.code B58_0 :: K58_0) env σ := by unfold K58_0; exact xI_lp
noncomputable def R58_0_0 : List It := .code (sndC (sndC (sndC b58))) :: []
theorem eK58_0_0 : exitA 0 K58_0 = some R58_0_0 := rfl
theorem l58 (l : List Nat) (hl : l.length ≤ 1000) (σ : St) : ∀ (suf : List Nat) (i : Nat), l.drop i = suf → i ≤ l.length →
    exI TT (FI.of Tryd.f58 (TT.an 58)) K58_0 [(0, .lst l.length (ints (nints l))), (1, .lst l.length (ints (nints l))), (5, .int .i64 i)] σ = some (.bool true, σ) := by
  intro suf
  induction suf with
  | nil =>
    intro i hd hi
    have : (l.drop i).length = 0 := by rw [hd]; rfl
    rw [List.length_drop] at this
    obtain rfl : i = l.length := by omega
    generalize l.length = n at *
    rw [fi58]
    rw [xl58_0]
    simp only [B58_0, b58, Tryd.f58, Option.getD, fstC, sndC, bodyC, thnC, elsC]
    simp [xI_seq, xI_region, xI_ret, regA, regOps, runOps, opStep, wantedA, opA, evo, evos, calleeA, lk, nif_eq, putE, paramsE, valS, val2, keepE, restrict, finA, resA, binA, binInt, ofConst, ofConst1, loadA, TK.isAgg, asVar, unA, builtinA, lenOpA, lenA, ileb_cast, ileb_eq, ieqb_dec, indexAddrA, inB_dec, evPairs, storeA, AV.cellsOf, pairsOf, xI_nil, binBool, gcE, evOpt, tagZ, xI_block, xI_loopH, xI_condM, xI_exitM, xI_skip, xI_blk, exitA, ty2, ty3, ty24, eK58_0_0]
    simp only [R58_0_0, b58, Tryd.f58, Option.getD, fstC, sndC, bodyC, thnC, elsC]
    simp [xI_seq, xI_region, xI_ret, regA, regOps, runOps, opStep, wantedA, opA, evo, evos, calleeA, lk, nif_eq, putE, paramsE, valS, val2, keepE, restrict, finA, resA, binA, binInt, ofConst, ofConst1, loadA, TK.isAgg, asVar, unA, builtinA, lenOpA, lenA, ileb_cast, ileb_eq, ieqb_dec, indexAddrA, inB_dec, evPairs, storeA, AV.cellsOf, pairsOf, xI_nil, binBool, gcE, evOpt, tagZ, xI_block, xI_loopH, xI_condM, xI_exitM, xI_skip, xI_blk, exitA, ty2, ty3, ty24, eK58_0_0]
  | cons x suf ih =>
    intro i hd hi
    obtain ⟨d1, d2, d3⟩ := dp1 hd
    have h1 := ih (i + 1) d3 d1
    have rd : ∀ σ : St, cellsAt σ (.lp (ints (nints l)) i) 1 = some [.int .i64 x] := fun σ => nints_read d2
    have hlt : (i : Int) < (l.length : Int) := by omega
    have hnl : ¬ l.length ≤ i := by omega
    have hw : wrapA .i64 ((i : Int) + 1) = (i : Int) + 1 := wrapA_id (by omega) (by omega)
    rw [← h1, show ((i + 1 : Nat) : Int) = (i : Int) + 1 by omega]
    clear h1 ih hd d3 d2
    generalize ints (nints l) = cs at *
    generalize l.length = n at *
    rw [fi58]
    conv => lhs; rw [xl58_0]
    simp only [B58_0, b58, Tryd.f58, Option.getD, fstC, sndC, bodyC, thnC, elsC]
    simp [xI_seq, xI_region, xI_ret, regA, regOps, runOps, opStep, wantedA, opA, evo, evos, calleeA, lk, nif_eq, putE, paramsE, valS, val2, keepE, restrict, finA, resA, binA, binInt, ofConst, ofConst1, loadA, TK.isAgg, asVar, unA, builtinA, lenOpA, lenA, ileb_cast, ileb_eq, ieqb_dec, indexAddrA, inB_dec, evPairs, storeA, AV.cellsOf, pairsOf, xI_nil, binBool, gcE, evOpt, tagZ, xI_block, xI_loopH, xI_condM, xI_exitM, xI_skip, xI_blk, exitA, ty2, ty3, ty24, eK58_0_0, runTr, pairsOk, pairOk, lstAt, lastOf, sameVal, AV.eqv, eqvs, eqvs_ints, regOps, blt_dec, cond_true, cond_false, fieldAddrA, allOne, AV.one, buildA, sizesOf, fillA, putCells, n_push, indexA, ty2, ty27, ty9, ty5, ty3, ty36, ty24, hlt, hnl, d1, hw, rd]
theorem v58 (l : List Nat) (hl : l.length ≤ 1000) : FnV TT 58 [.lst l.length (ints (nints l)), .lst l.length (ints (nints l))] (.bool true) := by
  refine FnV.mk fn58 rfl md58 ⟨⟨[], 0⟩, ?_⟩ (fun _ => rfl) rfl
  rw [← l58 l hl ⟨[], 0⟩ l 0 rfl (Nat.zero_le _), fi58]
  simp [xI_seq, xI_region, xI_ret, regA, regOps, runOps, opStep, wantedA, opA, evo, evos, calleeA, lk, nif_eq, putE, paramsE, valS, val2, keepE, restrict, finA, resA, binA, binInt, ofConst, ofConst1, loadA, TK.isAgg, asVar, unA, builtinA, lenOpA, lenA, ileb_cast, ileb_eq, ieqb_dec, indexAddrA, inB_dec, evPairs, storeA, AV.cellsOf, pairsOf, xI_nil, binBool, gcE, evOpt, tagZ, xI_block, xI_loopH, xI_condM, xI_exitM, xI_skip, xI_blk, exitA, ty2, ty3, ty24, eK58_0_0, runTr, pairsOk, pairOk, lstAt, lastOf, sameVal, AV.eqv, eqvs, eqvs_ints, regOps, blt_dec, cond_true, cond_false, fieldAddrA, allOne, AV.one, buildA, sizesOf, fillA, putCells, n_push, indexA, ty2, ty27, ty9, ty5, ty3, ty36, ty24]
  rfl
def rollI (K : Nat) (ws : List Nat) (x : Nat) : Option (Nat × Nat) := rollF (lvls K ws (K + 1)) 0 0 (bsOf K x)
def cntL (K : Nat) (ws : List Nat) (x : Nat) : List Nat := (List.range ws.length).map fun φ => sm (fun i => val (fun f _ => if f = φ then 1 else 0) (rollI K ws i)) x
def useL (K : Nat) (ws : List Nat) (x : Nat) : Nat := sm (fun i => val (fun _ d => d) (rollI K ws i)) x
theorem cntL_len (K : Nat) (ws : List Nat) (x : Nat) : (cntL K ws x).length = ws.length := by simp [cntL]
theorem cntL_get {K : Nat} {ws : List Nat} {x φ : Nat} (h : φ < ws.length) : (cntL K ws x)[φ]? = some (sm (fun i => val (fun f _ => if f = φ then 1 else 0) (rollI K ws i)) x) := by simp [cntL, h]
theorem cntL_set {K : Nat} {ws : List Nat} {x f d : Nat} (h : rollI K ws x = some (f, d)) (hf : f < ws.length) {y : Nat} (hy : (cntL K ws x)[f]? = some y) : (cntL K ws x).set f (y + 1) = cntL K ws (x + 1) := by
  rw [cntL_get hf] at hy
  have hy' := Option.some.inj hy
  apply List.ext_getElem?
  intro i
  rw [List.getElem?_set]
  by_cases hi : i < ws.length
  · rw [cntL_get hi, cntL_get hi, cntL_len]
    by_cases hfi : f = i
    · subst hfi
      rw [if_pos rfl, if_pos hf, sm, h, val, if_pos rfl, hy']
    · rw [if_neg hfi, sm, h, val, if_neg hfi]; rfl
  · rw [List.getElem?_eq_none (by rw [cntL_len]; omega), List.getElem?_eq_none (by rw [cntL_len]; omega), if_neg (by omega)]
theorem cntL_zero (K : Nat) (ws : List Nat) : cntL K ws 0 = List.replicate ws.length 0 := by
  simp [cntL, sm, List.map_const']
theorem cntL_all {K : Nat} {ws : List Nat} (h : Dya K ws) : cntL K ws (2 ^ K) = ws := by
  apply List.ext_getElem?
  intro i
  by_cases hi : i < ws.length
  · rw [cntL_get hi, show sm (fun j => val (fun f _ => if f = i then 1 else 0) (rollI K ws j)) (2 ^ K) = ws.getD i 0 from roll_count h hi]
    simp [List.getD_eq_getElem?_getD, hi]
  · rw [List.getElem?_eq_none (by rw [cntL_len]; omega), List.getElem?_eq_none (by omega)]
theorem rollI_some {K : Nat} {ws : List Nat} (h : Dya K ws) (x : Nat) : ∃ f d, rollI K ws x = some (f, d) ∧ d ≤ K ∧ f < ws.length := by
  have hT := dya_tree h
  have := roll_some hT K (Nat.le_refl K) 0 (by rw [Nat.sub_self, hT.root]; decide) (bsOf K x) (bsOf_length _ _)
  rw [Nat.sub_self, List.drop_zero] at this
  exact this
theorem useL_le {K : Nat} {ws : List Nat} (h : Dya K ws) : ∀ x, useL K ws x ≤ 6 * x
  | 0 => Nat.le_refl _
  | x + 1 => by
    obtain ⟨f, d, h1, h2, _⟩ := rollI_some h x
    have := useL_le h x
    have hK := h.2.1
    show useL K ws x + val (fun _ d => d) (rollI K ws x) ≤ _
    rw [h1, val]; omega
theorem cnt_le {K : Nat} {ws : List Nat} (φ : Nat) : ∀ x, sm (fun i => val (fun f _ => if f = φ then 1 else 0) (rollI K ws i)) x ≤ x
  | 0 => Nat.le_refl _
  | x + 1 => by
    have := cnt_le (K := K) (ws := ws) φ x
    rw [sm]
    have h2 : val (fun f _ => if f = φ then 1 else 0) (rollI K ws x) ≤ 1 := by
      cases rollI K ws x with
      | none => exact Nat.zero_le _
      | some q => rw [val]; split <;> omega
    omega

noncomputable def b11 : Code := Tryd.f11.body.getD .skip
noncomputable def B11_0 : Code := (bodyC (bodyC (sndC (fstC (sndC (sndC (sndC (sndC (sndC (sndC (sndC (sndC (sndC b11)))))))))))))
noncomputable def K11_0 : List It := .lp B11_0 :: .blk 0 :: .code (sndC (sndC (sndC (sndC (sndC (sndC (sndC (sndC (sndC (sndC b11)))))))))) :: []
theorem xl11_0 {fi : FI} {env : Env} {σ : St} : exI TT fi K11_0 env σ = exI TT fi (.code B11_0 :: K11_0) env σ := by unfold K11_0; exact xI_lp
noncomputable def R11_0_0 : List It := .code (sndC (sndC (sndC (sndC (sndC (sndC (sndC (sndC (sndC (sndC b11)))))))))) :: []
theorem eK11_0_0 : exitA 0 K11_0 = some R11_0_0 := rfl
def EZ (K n : Nat) (cw : List AV) (u x : Nat) : Env := [(5, .lst n cw), (6, .ptr 0 0), (10, .int .i64 K), (11, .sl 1 0 n n), (12, .int .i64 u), (13, .int .i64 x)]
set_option maxHeartbeats 1000000 in
theorem l11 {K : Nat} {ws : List Nat} (h : Dya K ws) : ∀ (m x : Nat) (σ : St), x + m = 2 ^ K → Row σ 1 (nints (cntL K ws x)) →
    ∃ σ', exI TT (FI.of Tryd.f11 (TT.an 11)) K11_0 (EZ K ws.length (ints (nints ws)) (useL K ws x) x) σ = exI TT (FI.of Tryd.f11 (TT.an 11)) R11_0_0 (EZ K ws.length (ints (nints ws)) (useL K ws (2 ^ K)) (2 ^ K) ++ [(65, .bool false)]) σ' ∧ Row σ' 1 (nints (cntL K ws (2 ^ K))) ∧ σ'.get 0 = σ.get 0 ∧ σ'.n = σ.n := by
  have hK := h.2.1
  have hp : 2 ^ K ≤ 64 := pw_6 hK
  have s1 := sh_1 (b := K) (by omega)
  rw [show pw K = 2 ^ K from rfl] at s1
  have s2 : wrapA .u64 (K : Int) = (K : Int) := n_wrapu (by omega)
  intro m
  induction m with
  | zero =>
    intro x σ hx hr
    obtain rfl : x = 2 ^ K := by omega
    refine ⟨σ, ?_, hr, rfl, rfl⟩
    unfold EZ
    simp only [List.cons_append, List.nil_append]
    generalize useL K ws (2 ^ K) = u at *
    generalize ints (nints ws) = cw at *
    generalize ws.length = n at *
    generalize 2 ^ K = P at *
    rw [fi11]
    conv => lhs; rw [xl11_0]
    simp only [B11_0, b11, Tryd.f11, Option.getD, fstC, sndC, bodyC, thnC, elsC]
    simp [xI_seq, xI_region, xI_ret, regA, regOps, runOps, opStep, wantedA, opA, evo, evos, calleeA, lk, nif_eq, putE, paramsE, valS, val2, keepE, restrict, finA, resA, binA, binInt, ofConst, ofConst1, loadA, TK.isAgg, asVar, unA, builtinA, lenOpA, lenA, ileb_cast, ileb_eq, ieqb_dec, indexAddrA, inB_dec, evPairs, storeA, AV.cellsOf, pairsOf, xI_nil, binBool, gcE, evOpt, tagZ, xI_block, xI_loopH, xI_condM, xI_exitM, xI_skip, xI_blk, exitA, ty2, ty3, ty4, ty24, ty36, ty78, ty81, eK11_0_0, runTr, pairsOk, pairOk, lstAt, lastOf, sameVal, AV.eqv, eqvs, eqvs_ints, regOps, blt_dec, cond_true, cond_false, fieldAddrA, allOne, AV.one, buildA, sizesOf, fillA, putCells, n_push, indexA, ty2, ty27, ty9, ty5, ty3, ty36, convA, ty3, s1, s2]
  | succ m ih =>
    intro x σ hx hr
    obtain ⟨fc, d, r1, r2, r3⟩ := rollI_some h x
    have hxK : x < 2 ^ K := by omega
    have c1 := v47 (n := K) (v := x) hK hxK σ [.int .i64 x, .int .i64 K] rfl
    have c2 := v56 h (bsOf K x) (by rw [bsOf_length]; omega) (bsOf_bits _ _) σ [.lst ws.length (ints (nints ws)), .str (bsOf K x)] rfl
    rw [show rollF (lvls K ws (K + 1)) 0 0 (bsOf K x) = some (fc, d) from r1, rollV] at c2
    have hcl := cnt_le (K := K) (ws := ws) fc x
    have hcg := cntL_get (K := K) (x := x) r3
    obtain ⟨y, hy⟩ : ∃ y, sm (fun i => val (fun f _ => if f = fc then 1 else 0) (rollI K ws i)) x = y := ⟨_, rfl⟩
    rw [hy] at hcl hcg
    have rd := hr.read (i := fc) (x := (y : Int)) (by simp only [nints, List.getElem?_map, hcg]; rfl)
    obtain ⟨σ1, st, hr1, hn1, ho1⟩ := store_row hr (i := fc) (x := ((y + 1 : Nat) : Int)) (by rw [nints_length, cntL_len]; exact r3)
    have hset : (nints (cntL K ws x)).set fc ((y + 1 : Nat) : Int) = nints (cntL K ws (x + 1)) := by
      rw [← cntL_set r1 r3 hcg]; simp [nints, List.map_set]
    rw [hset] at hr1
    obtain ⟨σ', h1, h2, h3, h4⟩ := ih (x + 1) σ1 (by omega) hr1
    refine ⟨σ', ?_, h2, h3.trans (ho1 0 (by decide)), h4.trans hn1⟩
    rw [← h1]
    have hu : useL K ws (x + 1) = useL K ws x + d := by
      show useL K ws x + val (fun _ d => d) (rollI K ws x) = _
      rw [r1, val]
    have hul := useL_le h x
    have w1 : wrapA .i64 ((x : Int) + 1) = (x : Int) + 1 := wrapA_id (by omega) (by omega)
    have w2 : wrapA .i64 ((y : Int) + 1) = ((y + 1 : Nat) : Int) := by rw [wrapA_id (by omega) (by omega)]; omega
    have w3 : wrapA .i64 ((useL K ws x : Int) + (d : Int)) = ((useL K ws (x + 1) : Nat) : Int) := by rw [wrapA_id (by omega) (by omega), hu]; omega
    have hlt : (x : Int) < ((2 ^ K : Nat) : Int) := by omega
    have hnl : ¬ 2 ^ K ≤ x := by omega
    have q1 : ¬ (fc : Int) < 0 := by omega
    have q2 : ¬ (ws.length : Int) ≤ (fc : Int) := by omega
    have q2' : ¬ ws.length ≤ fc := by omega
    have q3 : ¬ (d : Int) < 0 := by omega
    have q4 : ¬ (K : Int) < (d : Int) := by omega
    have q4' : ¬ K < d := by omega
    have q5 : (fc : Int) < (ws.length : Int) := by omega
    clear h1 h2 h3 h4 ih hr hr1 hset hcg hcl hu hul hy r1
    unfold EZ
    rw [show ((x + 1 : Nat) : Int) = (x : Int) + 1 by omega]
    generalize useL K ws (x + 1) = u2 at *
    generalize useL K ws x = u1 at *
    generalize bsOf K x = bt at *
    generalize ints (nints ws) = cw at *
    generalize ws.length = n at *
    generalize 2 ^ K = P at *
    generalize y + 1 = y2 at *
    rw [fi11]
    conv => lhs; rw [xl11_0]
    simp only [B11_0, b11, Tryd.f11, Option.getD, fstC, sndC, bodyC, thnC, elsC]
    simp [xI_seq, xI_region, xI_ret, regA, regOps, runOps, opStep, wantedA, opA, evo, evos, calleeA, lk, nif_eq, putE, paramsE, valS, val2, keepE, restrict, finA, resA, binA, binInt, ofConst, ofConst1, loadA, TK.isAgg, asVar, unA, builtinA, lenOpA, lenA, ileb_cast, ileb_eq, ieqb_dec, indexAddrA, inB_dec, evPairs, storeA, AV.cellsOf, pairsOf, xI_nil, binBool, gcE, evOpt, tagZ, xI_block, xI_loopH, xI_condM, xI_exitM, xI_skip, xI_blk, exitA, ty2, ty3, ty4, ty24, ty36, ty78, ty81, eK11_0_0, runTr, pairsOk, pairOk, lstAt, lastOf, sameVal, AV.eqv, eqvs, eqvs_ints, regOps, blt_dec, cond_true, cond_false, fieldAddrA, allOne, AV.one, buildA, sizesOf, fillA, putCells, n_push, indexA, ty2, ty27, ty9, ty5, ty3, ty36, convA, ty3, ty24, s1, s2, c1, c2, rd, st, w1, w2, w3, hlt, hnl, q1, q2, q2', q3, q4, q4', q5, r3, r2]
set_option maxHeartbeats 1000000 in
theorem w11 (code : List Nat) (hb : ∀ x ∈ code, x < 256) (mo : List Nat) (hm : ∀ x ∈ mo, x < 256) : FnV TT 11 [.lst code.length (byts code), .lst mo.length (byts mo)] (.bool true) := by
  refine FnV.mk fn11 rfl md11 ?_ (fun _ => rfl) rfl
  have cl := v18 code mo ⟨[], 0⟩ [.lst code.length (byts code), .lst mo.length (byts mo)] rfl
  by_cases hlong : 48 < code.length ∨ 48 < mo.length
  · have e : (decide (48 < code.length) || decide (48 < mo.length)) = true := by simpa using hlong
    rw [e] at cl
    refine ⟨⟨[], 0⟩, ?_⟩
    rw [fi11]
    simp [xI_seq, xI_region, xI_ret, regA, regOps, runOps, opStep, wantedA, opA, evo, evos, calleeA, lk, nif_eq, putE, paramsE, valS, val2, keepE, restrict, finA, resA, binA, binInt, ofConst, ofConst1, loadA, TK.isAgg, asVar, unA, builtinA, lenOpA, lenA, ileb_cast, ileb_eq, ieqb_dec, indexAddrA, inB_dec, evPairs, storeA, AV.cellsOf, pairsOf, xI_nil, binBool, gcE, evOpt, tagZ, xI_block, xI_loopH, xI_condM, xI_exitM, xI_skip, xI_blk, exitA, ty2, ty3, ty4, ty24, ty36, ty78, ty81, eK11_0_0, runTr, pairsOk, pairOk, lstAt, lastOf, sameVal, AV.eqv, eqvs, eqvs_ints, regOps, blt_dec, cond_true, cond_false, fieldAddrA, allOne, AV.one, buildA, sizesOf, fillA, putCells, n_push, indexA, ty2, ty27, ty9, ty5, ty3, ty36, cl]
  · have e : (decide (48 < code.length) || decide (48 < mo.length)) = false := by simp; omega
    rw [e] at cl
    obtain ⟨K, ws, h, vr⟩ := v52 code hb (by omega)
    have hK := h.2.1
    have hl5 := h.2.2.2
    have hp : 2 ^ K ≤ 64 := pw_6 hK
    have hp1 := Nat.two_pow_pos K
    have c1 := vr ⟨[], 0⟩ [.lst code.length (byts code)] rfl rfl
    have c2 := v53 h ⟨[], 0⟩ [.lst ws.length (ints (nints ws))] rfl
    have huse : useL K ws (2 ^ K) = usedN K ws (K + 1) := roll_used h
    have hul := useL_le h (2 ^ K)
    rw [cost_used (K + 1) (Nat.le_refl _), ← huse, fr_same (by omega) hp1 (by omega)] at c2
    have hgl : useL K ws (2 ^ K) / Nat.gcd (useL K ws (2 ^ K)) (2 ^ K) = useL K ws (2 ^ K) / Nat.gcd (useL K ws (2 ^ K)) (2 ^ K) := rfl
    obtain ⟨A, hA⟩ : ∃ A, useL K ws (2 ^ K) / Nat.gcd (useL K ws (2 ^ K)) (2 ^ K) = A := ⟨_, rfl⟩
    obtain ⟨B, hB⟩ : ∃ B, 2 ^ K / Nat.gcd (useL K ws (2 ^ K)) (2 ^ K) = B := ⟨_, rfl⟩
    rw [hA, hB] at c2
    obtain ⟨σ0, e0⟩ : ∃ σ0, (⟨[], 0⟩ : St).push ⟨[.int .i64 0, .int .i64 0], 2, false⟩ = σ0 := ⟨_, rfl⟩
    have n0 : σ0.n = 1 := by subst e0; rfl
    have Q0 : RGB σ0 0 0 0 := by subst e0; exact get_push_same
    obtain ⟨σ1, s1, Q1, n1, u1⟩ := Q0.s2 A B
    have c3 := v54 h σ1 [.lst ws.length (ints (nints ws))] rfl rfl
    have c4 := v55 h σ1 [.lst ws.length (ints (nints ws))] rfl
    have hmk : makeSliceA TT σ1 24 (.int .i64 ws.length) (.int .i64 ws.length) = some (.sl 1 0 ws.length ws.length, σ1.push ⟨ints (List.replicate ws.length 0), 1, false⟩) := by
      have := make_ints (T := TT) (σ := σ1) (n := ws.length) ty24 ty2 (by omega)
      rw [show σ1.n = 1 by omega] at this
      exact this
    obtain ⟨σ2, e2⟩ : ∃ σ2, σ1.push ⟨ints (List.replicate ws.length 0), 1, false⟩ = σ2 := ⟨_, rfl⟩
    have hr2 : Row σ2 1 (nints (cntL K ws 0)) := by
      rw [cntL_zero, show nints (List.replicate ws.length 0) = List.replicate ws.length 0 by simp [nints]]
      subst e2
      refine ⟨false, ?_, ?_⟩
      · have := get_push_same (σ := σ1) (x := ⟨ints (List.replicate ws.length 0), 1, false⟩)
        rwa [show σ1.n = 1 by omega] at this
      · show 1 < σ1.n + 1; omega
    have g20 : σ2.get 0 = σ1.get 0 := by subst e2; exact get_push_lt (by omega)
    obtain ⟨σ3, h1, hr3, g30, n3⟩ := l11 h (2 ^ K) 0 σ2 (by omega) hr2
    rw [cntL_all h] at hr3
    have n2 : σ2.n = 2 := by subst e2; show σ1.n + 1 = 2; omega
    have c5 := v57 (n := useL K ws (2 ^ K)) (d := 2 ^ K) (by omega) hp1 (by omega) σ3 [.int .i64 (useL K ws (2 ^ K) : Nat), .int .i64 (2 ^ K : Nat)] rfl
    rw [hA, hB] at c5
    obtain ⟨σ4, e4⟩ : ∃ σ4, σ3.push ⟨[.int .i64 0, .int .i64 0], 2, false⟩ = σ4 := ⟨_, rfl⟩
    have hn3 : σ3.n = 2 := by omega
    have Q4 : RGB σ4 2 0 0 := by
      have := get_push_same (σ := σ3) (x := ⟨[.int .i64 0, .int .i64 0], 2, false⟩)
      rw [hn3] at this; subst e4; exact this
    obtain ⟨σ5, s5, Q5, n5, u5⟩ := Q4.s2 A B
    have Q50 : RGB σ5 0 A B := Q1.keep ((u5 0 (by decide)).trans (by subst e4; rw [get_push_lt (by omega), g30, g20]))
    have hr5 : Row σ5 1 (nints ws) := hr3.keep (by rw [n5]; subst e4; exact Nat.le_succ _) ((u5 1 (by decide)).trans (by subst e4; exact get_push_lt (by omega)))
    have q1 := Q5.cc
    have q2 := Q50.cc
    have c6 := v58 ws (by omega) σ5 [.sl 1 0 ws.length ws.length, .lst ws.length (ints (nints ws))] (by
      have e0 : mapO (frzV σ5 frzDepth) [.lst ws.length (ints (nints ws))] = some [.lst ws.length (ints (nints ws))] := rfl
      exact mapO_cons (f := frzV σ5 frzDepth) (hr5.frz (d := 4) (nints_length _).symm (Nat.le_refl _)) e0)
    have w1 : wrapA .i64 (((K + 1 : Nat) : Int) - 1) = (K : Int) := by rw [wrapA_id (by omega) (by omega)]; omega
    have t1 := sh_1 (b := K) (by omega)
    rw [show pw K = 2 ^ K from rfl] at t1
    have t2 : wrapA .u64 (K : Int) = (K : Int) := n_wrapu (by omega)
    have hfin : exI TT (FI.of Tryd.f11 (TT.an 11)) R11_0_0 (EZ K ws.length (ints (nints ws)) (useL K ws (2 ^ K)) (2 ^ K) ++ [(65, .bool false)]) σ3 = some (.bool true, σ5) := by
      clear h1 c1 c2 c3 c4 hmk e0 e2 s1 cl vr hr2 hr3 hr5 Q0 Q1 Q4 Q5 Q50 hA hB huse hul hgl
      unfold EZ
      simp only [List.cons_append, List.nil_append]
      generalize useL K ws (2 ^ K) = u at *
      generalize ints (nints ws) = cw at *
      generalize ws.length = n at *
      generalize 2 ^ K = P at *
      rw [fi11]
      simp only [R11_0_0, b11, Tryd.f11, Option.getD, fstC, sndC, bodyC, thnC, elsC]
      simp [xI_seq, xI_region, xI_ret, regA, regOps, runOps, opStep, wantedA, opA, evo, evos, calleeA, lk, nif_eq, putE, paramsE, valS, val2, keepE, restrict, finA, resA, binA, binInt, ofConst, ofConst1, loadA, TK.isAgg, asVar, unA, builtinA, lenOpA, lenA, ileb_cast, ileb_eq, ieqb_dec, indexAddrA, inB_dec, evPairs, storeA, AV.cellsOf, pairsOf, xI_nil, binBool, gcE, evOpt, tagZ, xI_block, xI_loopH, xI_condM, xI_exitM, xI_skip, xI_blk, exitA, ty2, ty3, ty4, ty24, ty36, ty78, ty81, eK11_0_0, runTr, pairsOk, pairOk, lstAt, lastOf, sameVal, AV.eqv, eqvs, eqvs_ints, regOps, blt_dec, cond_true, cond_false, fieldAddrA, allOne, AV.one, buildA, sizesOf, fillA, putCells, n_push, indexA, ty2, ty27, ty9, ty5, ty3, ty36, convA, ty3, ty78, ty24, binNil, eqNil, eqStr, eqFs, t1, t2, c5, e4, hn3, s5, q1, q2, c6]
    refine ⟨σ5, ?_⟩
    rw [← hfin, ← h1]
    clear hfin h1 c5 c6 q1 q2 s5 Q5 Q50 hr5 hr3 hr2 vr
    unfold EZ
    rw [show useL K ws 0 = 0 from rfl, show ((0 : Nat) : Int) = 0 from rfl]
    have k1 : ¬ ((K + 1 : Nat) : Int) = 0 := by omega
    have k2 : ¬ (7 : Int) < ((K + 1 : Nat) : Int) := by omega
    have k3 : ¬ 7 < K + 1 := by omega
    have k4 : ((K + 1 : Nat) : Int) ≤ 7 := by omega
    generalize lvA (lvls K ws (K + 1)) = lv at *
    generalize List.replicate ws.length (0 : Int) = zs at *
    generalize ints (nints ws) = cw at *
    generalize ws.length = n at *
    generalize hK1 : K + 1 = K1 at *
    have k5 : ¬ K1 = 0 := by omega
    rw [fi11]
    simp [xI_seq, xI_region, xI_ret, regA, regOps, runOps, opStep, wantedA, opA, evo, evos, calleeA, lk, nif_eq, putE, paramsE, valS, val2, keepE, restrict, finA, resA, binA, binInt, ofConst, ofConst1, loadA, TK.isAgg, asVar, unA, builtinA, lenOpA, lenA, ileb_cast, ileb_eq, ieqb_dec, indexAddrA, inB_dec, evPairs, storeA, AV.cellsOf, pairsOf, xI_nil, binBool, gcE, evOpt, tagZ, xI_block, xI_loopH, xI_condM, xI_exitM, xI_skip, xI_blk, exitA, ty2, ty3, ty4, ty24, ty36, ty78, ty81, eK11_0_0, runTr, pairsOk, pairOk, lstAt, lastOf, sameVal, AV.eqv, eqvs, eqvs_ints, regOps, blt_dec, cond_true, cond_false, fieldAddrA, allOne, AV.one, buildA, sizesOf, fillA, putCells, n_push, indexA, ty2, ty27, ty9, ty5, ty3, ty36, ty78, ty24, ty81, cl, c1, c2, e0, n0, s1, c3, c4, hmk, e2, w1, k1, k2, k3, k4, k5]
    rfl

end Go.Proofs.YthkdbkjkccogfaaDoor
