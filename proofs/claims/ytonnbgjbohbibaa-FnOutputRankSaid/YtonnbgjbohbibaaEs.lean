/- Contracts: least solutions by trying bits. Nothing is claimed here; no condition. -/
import Derived.Test.YtonnbgjbohbibaaEr
namespace Go.Proofs.Ytonnbgjbohbibaa
open Go Go.Abs
set_option linter.unusedSimpArgs false
set_option linter.unusedVariables false
open Go.Wd
noncomputable def b110 : Code := Try.f110.body.getD .skip
noncomputable def B110_0 : Code := (bodyC (bodyC (sndC (fstC (sndC (sndC (sndC (sndC b110))))))))
noncomputable def K110_0 : List It := .lp B110_0 :: .blk 0 :: .code (sndC (sndC (sndC (sndC (sndC b110))))) :: []
theorem xl110_0 {fi : FI} {env : Env} {σ : St} : exI TT fi K110_0 env σ = exI TT fi (.code B110_0 :: K110_0) env σ := by unfold K110_0; exact xI_lp
noncomputable def R110_0_0 : List It := .code (sndC (sndC (sndC (sndC (sndC b110))))) :: []
theorem eK110_0_0 : exitA 0 K110_0 = some R110_0_0 := rfl
/-- The bit that is tried. -/
def cI : Nat → Int
  | 0 => -1
  | k + 1 => k
theorem cI_wrap (k : Nat) (hk : k ≤ 100) : wrapA .i64 ((k : Int) - 1) = cI k := by
  rw [wrapA_id (by omega) (by omega)]
  cases k with
  | zero => rfl
  | succ k => show ((k + 1 : Nat) : Int) - 1 = (k : Int); omega
theorem own_row (σ : St) (V : AV) (es : List Nat) (hl : es.length ≤ 1000000) (hV : IsL σ V (nints es)) : ∃ σ', callI TT 120 [V] σ = some (.sl σ.n 0 es.length es.length, σ') ∧ Row σ' σ.n (nints es) ∧ Old σ σ' ∧ σ'.n = σ.n + 1 := by
  have hO := s120 (nints es) (by rw [nints_length]; exact hl)
  obtain ⟨q, h⟩ := hO σ [V] (mapO_cons (hV.frz (d := 4)) rfl)
  rw [nints_length] at h
  exact ⟨_, h, Row.push, Old.push, rfl⟩
theorem isl_keep {σ σ' : St} {V : AV} {l : List Int} (h : IsL σ V l) (hn : σ.n ≤ σ'.n) (hk : ∀ c, c < σ.n → σ'.get c = σ.get c) : IsL σ' V l := h.old ⟨hn, hk⟩
theorem row_frz {σ : St} {b : Nat} {l : List Nat} (h : Row σ b (nints l)) (x : AV) (hx : x.scal = true) (hfx : frzV σ frzDepth x = some x) : mapO (frzV σ frzDepth) [.sl b 0 l.length l.length, x] = some [.lst l.length (ints (nints l)), x] :=
  mapO_cons (h.frz (d := 4) (nints_length l).symm (Nat.le_refl _)) (mapO_cons hfx rfl)
theorem l110 (w : Nat) (hw : w ≤ 16) : ∀ (k : Nat) (es : List Nat) (out free : Nat) (σ : St) (V : AV), k ≤ w → out < 2 ^ w → free + k ≤ w → es.length + k ≤ 100000 → (∀ e ∈ es, e < 2 ^ (w + 1)) → IsL σ V (nints es) →
    ∃ σ', exI TT (FI.of Try.f110 (TT.an 110)) K110_0 [(0, V), (1, .int .i64 w), (7, .int .i64 out), (8, .int .i64 free), (9, .int .i64 (cI k))] σ = some (.tup [.int .i64 (greedy w k es out free).1, .int .i64 (greedy w k es out free).2, .bool true], σ') := by
  intro k
  induction k with
  | zero =>
    intro es out free σ V hk ho hf hl hes hV
    refine ⟨σ, ?_⟩
    simp only [greedy, cI]
    rw [fi110]
    rw [xl110_0]
    simp only [B110_0, b110, Try.f110, Option.getD, fstC, sndC, bodyC, thnC, elsC]
    simp [xI_seq, xI_region, xI_ret, regA, regOps, runOps, opStep, wantedA, opA, evo, evos, calleeA, lk, nif_eq, putE, paramsE, valS, val2, keepE, restrict, finA, resA, binA, binInt, ofConst, ofConst1, loadA, TK.isAgg, asVar, unA, builtinA, lenOpA, lenA, ileb_cast, ileb_eq, ieqb_dec, indexAddrA, inB_dec, evPairs, storeA, AV.cellsOf, pairsOf, xI_nil, binBool, gcE, evOpt, xI_block, xI_loopH, xI_condM, xI_exitM, xI_skip, xI_blk, exitA, ty2, ty4, ty33, ty73, eK110_0_0]
    simp only [R110_0_0, b110, Try.f110, Option.getD, fstC, sndC, bodyC, thnC, elsC]
    simp [xI_seq, xI_region, xI_ret, regA, regOps, runOps, opStep, wantedA, opA, evo, evos, calleeA, lk, nif_eq, putE, paramsE, valS, val2, keepE, restrict, finA, resA, binA, binInt, ofConst, ofConst1, loadA, TK.isAgg, asVar, unA, builtinA, lenOpA, lenA, ileb_cast, ileb_eq, ieqb_dec, indexAddrA, inB_dec, evPairs, storeA, AV.cellsOf, pairsOf, xI_nil, binBool, gcE, evOpt, xI_block, xI_loopH, xI_condM, xI_exitM, xI_skip, xI_blk, exitA, ty2, ty4, ty33, ty73, eK110_0_0]
  | succ k ih =>
    intro es out free σ V hk ho hf hl hes hV
    have hw16 : 2 ^ w ≤ 65536 := pw_16 hw
    have hkw : 2 ^ k < 2 ^ w := Nat.pow_lt_pow_right (by decide) (by omega)
    obtain ⟨σ1, c1, r1, o1, n1⟩ := own_row σ V es (by omega) hV
    obtain ⟨σ2, a1, r2, n2, u2⟩ := nints_append_row (x := pw k) ty33 ty2 r1 (n := es.length) rfl (by omega)
    have hV2 : IsL σ2 V (nints es) := isl_keep hV (by omega) fun c hc => (u2 c (by omega) (by omega)).trans (o1.2 c hc)
    obtain ⟨σ3, c3, r3, o3, n3⟩ := own_row σ2 V es (by omega) hV2
    obtain ⟨σ4, a3, r4, n4, u4⟩ := nints_append_row (x := orN (pw k) (pw w)) ty33 ty2 r3 (n := es.length) rfl (by omega)
    have r2' : Row σ4 (σ1.n + 1) (nints (es ++ [pw k])) := (r2.old o3).keep (by omega) (u4 _ (by omega) (by omega))
    have hz : ∀ e ∈ es ++ [pw k], e < 2 ^ (w + 1) := by
      intro e he
      rcases List.mem_append.1 he with he | he
      · exact hes e he
      · rw [List.mem_singleton.1 he]; exact Nat.lt_of_lt_of_le hkw (Nat.pow_le_pow_right (by decide) (by omega))
    have ho1 : ∀ e ∈ es ++ [orN (pw k) (pw w)], e < 2 ^ (w + 1) := by
      intro e he
      rcases List.mem_append.1 he with he | he
      · exact hes e he
      · rw [List.mem_singleton.1 he]; exact Nat.or_lt_two_pow (Nat.lt_of_lt_of_le hkw (Nat.pow_le_pow_right (by decide) (by omega))) (Nat.pow_lt_pow_right (by decide) (by omega))
    have cS0 : callI TT 119 [.sl (σ1.n + 1) 0 (es ++ [pw k]).length (es ++ [pw k]).length, .int .u64 w] σ4 = some (.bool (can w (es ++ [pw k])), σ4) := v119 w (by omega) (es ++ [pw k]) (by simp; omega) (fun e he => lt_w hw (hz e he)) σ4 _ (row_frz r2' _ rfl rfl)
    have cS1 : callI TT 119 [.sl (σ3.n + 1) 0 (es ++ [orN (pw k) (pw w)]).length (es ++ [orN (pw k) (pw w)]).length, .int .u64 w] σ4 = some (.bool (can w (es ++ [orN (pw k) (pw w)])), σ4) := v119 w (by omega) (es ++ [orN (pw k) (pw w)]) (by simp; omega) (fun e he => lt_w hw (ho1 e he)) σ4 _ (row_frz r4 _ rfl rfl)
    have hz0 : IsL σ4 (.sl (σ1.n + 1) 0 (es.length + 1) (es.length + 1)) (nints (es ++ [pw k])) := IsL.of_row r2' (by rw [nints_length]; simp)
    have hz1 : IsL σ4 (.sl (σ3.n + 1) 0 (es.length + 1) (es.length + 1)) (nints (es ++ [orN (pw k) (pw w)])) := IsL.of_row r4 (by rw [nints_length]; simp)
    simp only [show (es ++ [pw k]).length = es.length + 1 by simp] at cS0
    simp only [show (es ++ [orN (pw k) (pw w)]).length = es.length + 1 by simp] at cS1
    have u1 := n_wrapu (a := k) (by omega)
    have u2' := n_wrapu (a := w) (by omega)
    have e1 := sh_1 (b := k) (by omega)
    have e2 := sh_1 (b := w) (by omega)
    have hpk := pw_16 (k := k) (by omega)
    have hpw := pw_16 hw
    have e3 := n_or (a := pw k) (b := pw w) (by omega) (by omega)
    have e4 := n_or (a := out) (b := pw k) (by omega) (by omega)
    have hcw := cI_wrap k (by omega)
    have hfw := wrapS (n := free) (by omega)
    have hk0 : (0 : Int) ≤ (k : Int) := by omega
    have hout : orN out (pw k) < 2 ^ w := Nat.or_lt_two_pow ho hkw
    have hgr : greedy w (k + 1) es out free = if can w (es ++ [pw k]) then greedy w k (es ++ [pw k]) out (if can w (es ++ [pw k]) && can w (es ++ [orN (pw k) (pw w)]) then free + 1 else free) else greedy w k (es ++ [orN (pw k) (pw w)]) (orN out (pw k)) (if can w (es ++ [pw k]) && can w (es ++ [orN (pw k) (pw w)]) then free + 1 else free) := rfl
    rw [hgr, show cI (k + 1) = (k : Int) from rfl]
    cases h0 : can w (es ++ [pw k]) with
    | true =>
      rw [h0] at cS0
      cases h1 : can w (es ++ [orN (pw k) (pw w)]) with
      | true =>
        rw [h1] at cS1
        obtain ⟨σ', h5⟩ := ih (es ++ [pw k]) out (free + 1) σ4 _ (by omega) ho (by omega) (by simp; omega) hz hz0
        refine ⟨σ', ?_⟩
        simp only [Bool.and_self, if_true]
        simp only [Int.natCast_add, show ((1 : Nat) : Int) = 1 from rfl] at h5
        rw [fi110] at h5 ⊢
        rw [xl110_0]
        simp only [B110_0, b110, Try.f110, Option.getD, fstC, sndC, bodyC, thnC, elsC]
        simp [xI_seq, xI_region, xI_ret, regA, regOps, runOps, opStep, wantedA, opA, evo, evos, calleeA, lk, nif_eq, putE, paramsE, valS, val2, keepE, restrict, finA, resA, binA, binInt, ofConst, ofConst1, loadA, TK.isAgg, asVar, unA, builtinA, lenOpA, lenA, ileb_cast, ileb_eq, ieqb_dec, indexAddrA, inB_dec, evPairs, storeA, AV.cellsOf, pairsOf, xI_nil, binBool, gcE, evOpt, xI_block, xI_loopH, xI_condM, xI_exitM, xI_skip, xI_blk, exitA, ty2, ty4, ty33, ty73, eK110_0_0, c1, a1, c3, a3, cS0, cS1, u1, u2', e1, e2, e3, hcw, hfw, hk0, bs1, convA, ty73]
        exact h5
      | false =>
        rw [h1] at cS1
        obtain ⟨σ', h5⟩ := ih (es ++ [pw k]) out free σ4 _ (by omega) ho (by omega) (by simp; omega) hz hz0
        refine ⟨σ', ?_⟩
        simp only [Bool.and_false, Bool.false_eq_true, if_false, if_true]
        rw [fi110] at h5 ⊢
        rw [xl110_0]
        simp only [B110_0, b110, Try.f110, Option.getD, fstC, sndC, bodyC, thnC, elsC]
        simp [xI_seq, xI_region, xI_ret, regA, regOps, runOps, opStep, wantedA, opA, evo, evos, calleeA, lk, nif_eq, putE, paramsE, valS, val2, keepE, restrict, finA, resA, binA, binInt, ofConst, ofConst1, loadA, TK.isAgg, asVar, unA, builtinA, lenOpA, lenA, ileb_cast, ileb_eq, ieqb_dec, indexAddrA, inB_dec, evPairs, storeA, AV.cellsOf, pairsOf, xI_nil, binBool, gcE, evOpt, xI_block, xI_loopH, xI_condM, xI_exitM, xI_skip, xI_blk, exitA, ty2, ty4, ty33, ty73, eK110_0_0, c1, a1, c3, a3, cS0, cS1, u1, u2', e1, e2, e3, hcw, hfw, hk0, bs1, convA, ty73]
        exact h5
    | false =>
      rw [h0] at cS0
      obtain ⟨σ', h5⟩ := ih (es ++ [orN (pw k) (pw w)]) (orN out (pw k)) free σ4 _ (by omega) hout (by omega) (by simp; omega) ho1 hz1
      refine ⟨σ', ?_⟩
      simp only [Bool.false_and, Bool.false_eq_true, if_false]
      rw [fi110] at h5 ⊢
      rw [xl110_0]
      simp only [B110_0, b110, Try.f110, Option.getD, fstC, sndC, bodyC, thnC, elsC]
      simp [xI_seq, xI_region, xI_ret, regA, regOps, runOps, opStep, wantedA, opA, evo, evos, calleeA, lk, nif_eq, putE, paramsE, valS, val2, keepE, restrict, finA, resA, binA, binInt, ofConst, ofConst1, loadA, TK.isAgg, asVar, unA, builtinA, lenOpA, lenA, ileb_cast, ileb_eq, ieqb_dec, indexAddrA, inB_dec, evPairs, storeA, AV.cellsOf, pairsOf, xI_nil, binBool, gcE, evOpt, xI_block, xI_loopH, xI_condM, xI_exitM, xI_skip, xI_blk, exitA, ty2, ty4, ty33, ty73, eK110_0_0, c1, a1, c3, a3, cS0, u1, u2', e1, e2, e3, e4, hcw, hfw, hk0, bs1, convA, ty73]
      exact h5
theorem v110 (w : Nat) (hw : w ≤ 16) (es : List Nat) (hl : es.length ≤ 99000) (hes : ∀ e ∈ es, e < 2 ^ (w + 1)) : FnV TT 110 [.lst es.length (ints (nints es)), .int .i64 w]
    (if can w es = true then .tup [.int .i64 (greedy w w es 0 0).1, .int .i64 (greedy w w es 0 0).2, .bool true] else .tup [.int .i64 0, .int .i64 0, .bool false]) := by
  have u2' := n_wrapu (a := w) (by omega)
  have cS : callI TT 119 [.lst es.length (ints (nints es)), .int .u64 w] ⟨[], 0⟩ = some (.bool (can w es), ⟨[], 0⟩) := v119 w (by omega) es (by omega) (fun e he => lt_w hw (hes e he)) _ _ rfl
  cases hc : can w es with
  | false =>
    rw [hc] at cS
    refine FnV.mk fn110 rfl md110 ⟨⟨[], 0⟩, ?_⟩ (fun _ => rfl) rfl
    rw [fi110]
    simp [xI_seq, xI_region, xI_ret, regA, regOps, runOps, opStep, wantedA, opA, evo, evos, calleeA, lk, nif_eq, putE, paramsE, valS, val2, keepE, restrict, finA, resA, binA, binInt, ofConst, ofConst1, loadA, TK.isAgg, asVar, unA, builtinA, lenOpA, lenA, ileb_cast, ileb_eq, ieqb_dec, indexAddrA, inB_dec, evPairs, storeA, AV.cellsOf, pairsOf, xI_nil, binBool, gcE, evOpt, xI_block, xI_loopH, xI_condM, xI_exitM, xI_skip, xI_blk, exitA, ty2, ty4, ty33, ty73, eK110_0_0, cS, u2', convA, ty73]
  | true =>
    rw [hc] at cS
    obtain ⟨σ', h5⟩ := l110 w hw w es 0 0 ⟨[], 0⟩ (.lst es.length (ints (nints es))) (Nat.le_refl _) (Nat.pow_pos (by decide)) (by omega) (by omega) hes (.inl (by rw [nints_length]))
    have hcw := cI_wrap w (by omega)
    refine FnV.mk fn110 rfl md110 ⟨σ', ?_⟩ (fun _ => rfl) rfl
    simp only [if_true]
    rw [← h5, fi110]
    simp [xI_seq, xI_region, xI_ret, regA, regOps, runOps, opStep, wantedA, opA, evo, evos, calleeA, lk, nif_eq, putE, paramsE, valS, val2, keepE, restrict, finA, resA, binA, binInt, ofConst, ofConst1, loadA, TK.isAgg, asVar, unA, builtinA, lenOpA, lenA, ileb_cast, ileb_eq, ieqb_dec, indexAddrA, inB_dec, evPairs, storeA, AV.cellsOf, pairsOf, xI_nil, binBool, gcE, evOpt, xI_block, xI_loopH, xI_condM, xI_exitM, xI_skip, xI_blk, exitA, ty2, ty4, ty33, ty73, eK110_0_0, cS, u2', convA, ty73, hcw]
    rfl

end Go.Proofs.Ytonnbgjbohbibaa
