/- Contracts and law: seeds behind what is seen. Nothing is claimed here; no condition. -/
import Derived.Test.YtonnbgjbohbibaaEk
namespace Go.Proofs.Ytonnbgjbohbibaa
open Go Go.Abs
set_option linter.unusedSimpArgs false
set_option linter.unusedVariables false
open Go.Wd
theorem bs2 (σ : St) (x y : Int) : buildSliceA TT σ 33 2 [(0, .int .i64 x), (1, .int .i64 y)] = some (.sl σ.n 0 2 2, σ.push ⟨ints [x, y], 1, false⟩) := by
  simp [buildSliceA, ty33, ty2, fillA, repeatCells, putCells, AV.cellsOf, allOne, AV.one, ints]
theorem o28 (a c : Int) (l : List Int) (hl : l.length ≤ 1048576) : FnO TT 28 [.int .i64 a, .int .i64 c, .lst l.length (ints l)] (sbR a c l) := by
  obtain ⟨σ1, hσ⟩ : ∃ σ1, (⟨[], 0⟩ : St).push ⟨ints [a, c], 1, false⟩ = σ1 := ⟨_, rfl⟩
  have hb : buildSliceA TT ⟨[], 0⟩ 33 2 [(0, .int .i64 a), (1, .int .i64 c)] = some (.sl 0 0 2 2, σ1) := by rw [bs2, hσ]
  have e1 : callI TT 79 [.sl 0 0 2 2, .int .i64 0, .int .i64 65535] σ1 = some (.bool (allR [a, c] 0 65535), σ1) := v79 [a, c] 2 rfl (by decide) 0 65535 σ1 _ (mapO_cons (by subst hσ; exact frzV_sl (l := [a, c]) (o := false) rfl rfl (Nat.le_refl _)) rfl)
  have e1' : allR [a, c] 0 65535 = (inR a 0 65535 && inR c 0 65535) := by simp [allR]
  rw [e1'] at e1
  have e2 : callI TT 81 [.lst l.length (ints l)] σ1 = some (.int .i64 l.length, σ1) := v81 l l.length σ1 _ rfl
  have e3 := c80 l.length 1 64 σ1
  have e4 : callI TT 79 [.lst l.length (ints l), .int .i64 0, .int .i64 255] σ1 = some (.bool (allR l 0 255), σ1) := v79 l l.length rfl (by omega) 0 255 σ1 _ rfl
  cases hk : sbOk a c l with
  | false =>
    rw [sbR_no hk]
    refine FnO.mkN fn28 rfl md28 ⟨σ1, ?_⟩
    rw [fi28]
    simp only [sbOk] at hk
    cases h1 : inR a 0 65535 <;> cases h2 : inR c 0 65535 <;> cases h3 : inR l.length 1 64 <;> cases h4 : allR l 0 255 <;> simp [h1, h2, h3, h4] at hk <;> (simp only [h1, h2, h3, h4, Bool.false_and, Bool.and_false, Bool.true_and, Bool.and_true] at e1 e3 e4; simp [xI_seq, xI_region, xI_ret, regA, regOps, runOps, opStep, wantedA, opA, evo, evos, calleeA, lk, nif_eq, putE, paramsE, valS, val2, keepE, restrict, finA, resA, binA, binInt, ofConst, ofConst1, loadA, TK.isAgg, asVar, unA, builtinA, lenOpA, lenA, ileb_cast, ileb_eq, ieqb_dec, indexAddrA, inB_dec, evPairs, storeA, AV.cellsOf, pairsOf, xI_nil, binBool, gcE, evOpt, xI_block, xI_loopH, xI_condM, xI_exitM, xI_skip, xI_blk, exitA, ty2, ty3, ty4, ty33, hb, e1, e2, e3, e4])
  | true =>
    obtain ⟨x, y, s, r, rfl, rfl, rfl, h1, h2, h3, h4⟩ := sb_nat hk
    simp only [sbOk, Bool.and_eq_true] at hk
    obtain ⟨⟨⟨k1, k2⟩, k3⟩, k4⟩ := hk
    have hk' : sbOk (x : Int) y (nints (s :: r)) = true := by simp [sbOk, k1, k2, k3, k4]
    rw [sbR_yes hk']
    obtain ⟨σ', b', q', g1, g2, g3⟩ := l28 x y h1 h2 (s :: r) h4 (s :: r).length rfl h3 65536 0 [] σ1.n (σ1.push ⟨ints [], 1, false⟩) rfl (Nat.le_refl _) Row.push
    rw [List.nil_append] at g2 g3
    obtain ⟨o, g4, _⟩ := g3
    simp only [List.length_nil, Int.natCast_zero, show ((0 : Nat) : Int) = 0 from rfl] at g1
    refine FnO.mkS fn28 rfl md28 ⟨σ', b', o, ?_, g4⟩
    have gq : (nints (scan (fun x => x) (fit x y (s :: r)) 65536 0)).length = q' := by rw [nints_length, ← g2]
    rw [gq, ← g1, fi28]
    rw [nints_length] at e2 e3 e4 k3
    rw [k1, k2] at e1
    rw [k3] at e3
    rw [k4] at e4
    rw [nints_length]
    simp only [Bool.and_self] at e1
    generalize (s :: r).length = len at *
    simp [xI_seq, xI_region, xI_ret, regA, regOps, runOps, opStep, wantedA, opA, evo, evos, calleeA, lk, nif_eq, putE, paramsE, valS, val2, keepE, restrict, finA, resA, binA, binInt, ofConst, ofConst1, loadA, TK.isAgg, asVar, unA, builtinA, lenOpA, lenA, ileb_cast, ileb_eq, ieqb_dec, indexAddrA, inB_dec, evPairs, storeA, AV.cellsOf, pairsOf, xI_nil, binBool, gcE, evOpt, xI_block, xI_loopH, xI_condM, xI_exitM, xI_skip, xI_blk, exitA, ty2, ty3, ty4, ty33, hb, e1, e2, e3, e4, bn0]
    rfl

theorem c73 (n : Int) (σ : St) : callI TT 73 [.int .i64 n] σ = some (.bool (inR n 0 65535), σ) := by
  refine (FnV.mk (args' := [.int .i64 n]) fn73 rfl md73 ⟨⟨[], 0⟩, ?_⟩ (fun _ => rfl) rfl) σ _ rfl
  have h := c88 n 0 65535 ⟨[], 0⟩
  rw [fi73]
  simp [xI_seq, xI_region, xI_ret, regA, regOps, runOps, opStep, wantedA, opA, evo, evos, calleeA, lk, nif_eq, putE, paramsE, valS, val2, keepE, restrict, finA, resA, binA, binInt, ofConst, ofConst1, loadA, TK.isAgg, asVar, unA, builtinA, lenOpA, lenA, ileb_cast, ileb_eq, ieqb_dec, indexAddrA, inB_dec, evPairs, storeA, AV.cellsOf, pairsOf, xI_nil, binBool, gcE, evOpt, xI_block, xI_loopH, xI_condM, xI_exitM, xI_skip, xI_blk, exitA, h]

noncomputable def b42 : Code := Try.f42.body.getD .skip
noncomputable def B42_0 : Code := (bodyC (bodyC (sndC (fstC (sndC (sndC b42))))))
noncomputable def K42_0 : List It := .lp B42_0 :: .blk 0 :: .code (sndC (sndC (sndC b42))) :: []
theorem xl42_0 {fi : FI} {env : Env} {σ : St} : exI TT fi K42_0 env σ = exI TT fi (.code B42_0 :: K42_0) env σ := by unfold K42_0; exact xI_lp
noncomputable def R42_0_0 : List It := .code (sndC (sndC (sndC b42))) :: []
theorem eK42_0_0 : exitA 0 K42_0 = some R42_0_0 := rfl
noncomputable def B42_1 : Code := (bodyC (bodyC (sndC (fstC (sndC (sndC (sndC (sndC b42))))))))
noncomputable def K42_1 : List It := .lp B42_1 :: .blk 2 :: .code (sndC (sndC (sndC (sndC (sndC b42))))) :: []
theorem xl42_1 {fi : FI} {env : Env} {σ : St} : exI TT fi K42_1 env σ = exI TT fi (.code B42_1 :: K42_1) env σ := by unfold K42_1; exact xI_lp
noncomputable def R42_1_2 : List It := .code (sndC (sndC (sndC (sndC (sndC b42))))) :: []
theorem eK42_1_2 : exitA 2 K42_1 = some R42_1_2 := rfl
noncomputable def B42_2 : Code := (bodyC (bodyC (sndC (fstC (sndC (sndC (sndC (bodyC (fstC (sndC (bodyC (bodyC (sndC (fstC (sndC (sndC (sndC (sndC b42))))))))))))))))))
noncomputable def K42_2 : List It := .lp B42_2 :: .blk 4 :: .code (sndC (sndC (sndC (sndC (bodyC (fstC (sndC (bodyC (bodyC (sndC (fstC (sndC (sndC (sndC (sndC b42))))))))))))))) :: .blk 3 :: .code (sndC (sndC (bodyC (bodyC (sndC (fstC (sndC (sndC (sndC (sndC b42)))))))))) :: K42_1
theorem xl42_2 {fi : FI} {env : Env} {σ : St} : exI TT fi K42_2 env σ = exI TT fi (.code B42_2 :: K42_2) env σ := by unfold K42_2; exact xI_lp
noncomputable def R42_2_4 : List It := .code (sndC (sndC (sndC (sndC (bodyC (fstC (sndC (bodyC (bodyC (sndC (fstC (sndC (sndC (sndC (sndC b42))))))))))))))) :: .blk 3 :: .code (sndC (sndC (bodyC (bodyC (sndC (fstC (sndC (sndC (sndC (sndC b42)))))))))) :: K42_1
theorem eK42_2_4 : exitA 4 K42_2 = some R42_2_4 := rfl
noncomputable def R42_2_3 : List It := .code (sndC (sndC (bodyC (bodyC (sndC (fstC (sndC (sndC (sndC (sndC b42)))))))))) :: K42_1
theorem eK42_2_3 : exitA 3 K42_2 = some R42_2_3 := rfl
theorem eK42_2_2 : exitA 2 K42_2 = some R42_1_2 := rfl
theorem d42y (a c : Int) (l : List Int) (len : Nat) (hlen : len = l.length) (hl : len ≤ 1048576) (σ : St) : ∀ (suf pre : List Int), l = pre ++ suf → allR suf 0 255 = true →
    exI TT (FI.of Try.f42 (TT.an 42)) K42_0 [(0, .int .i64 a), (1, .int .i64 c), (2, .lst len (ints l)), (8, .int .i64 pre.length)] σ =
      exI TT (FI.of Try.f42 (TT.an 42)) R42_0_0 [(0, .int .i64 a), (1, .int .i64 c), (2, .lst len (ints l)), (8, .int .i64 len), (32, .bool false)] σ := by
  intro suf
  induction suf with
  | nil =>
    intro pre hp _
    have hll : len = pre.length := by rw [hlen, hp]; simp
    subst hll
    rw [fi42]
    rw [xl42_0]
    simp only [B42_0, b42, Try.f42, Option.getD, fstC, sndC, bodyC, thnC, elsC]
    simp [xI_seq, xI_region, xI_ret, regA, regOps, runOps, opStep, wantedA, opA, evo, evos, calleeA, lk, nif_eq, putE, paramsE, valS, val2, keepE, restrict, finA, resA, binA, binInt, ofConst, ofConst1, loadA, TK.isAgg, asVar, unA, builtinA, lenOpA, lenA, ileb_cast, ileb_eq, ieqb_dec, indexAddrA, inB_dec, evPairs, storeA, AV.cellsOf, pairsOf, xI_nil, binBool, gcE, evOpt, xI_block, xI_loopH, xI_condM, xI_exitM, xI_skip, xI_blk, exitA, ty2, ty3, ty4, ty33, eK42_0_0, eK42_1_2, eK42_2_4, eK42_2_3, eK42_2_2]
  | cons x suf ih =>
    intro pre hp hx
    have hll : len = pre.length + (suf.length + 1) := by rw [hlen, hp]; simp
    have hg : l[pre.length]? = some x := by simp [hp]
    have hlt : ¬ len ≤ pre.length := by omega
    have hlt2 : pre.length < len := by omega
    have hw := wrapS (n := pre.length) (by omega)
    have hi := c88 x 0 255 σ
    simp only [allR, List.all_cons, Bool.and_eq_true] at hx
    have h1 := ih (pre ++ [x]) (by simp [hp]) hx.2
    rw [hx.1] at hi
    simp only [List.length_append, List.length_singleton] at h1
    rw [fi42] at h1 ⊢
    rw [xl42_0]
    simp only [B42_0, b42, Try.f42, Option.getD, fstC, sndC, bodyC, thnC, elsC]
    simp [xI_seq, xI_region, xI_ret, regA, regOps, runOps, opStep, wantedA, opA, evo, evos, calleeA, lk, nif_eq, putE, paramsE, valS, val2, keepE, restrict, finA, resA, binA, binInt, ofConst, ofConst1, loadA, TK.isAgg, asVar, unA, builtinA, lenOpA, lenA, ileb_cast, ileb_eq, ieqb_dec, indexAddrA, inB_dec, evPairs, storeA, AV.cellsOf, pairsOf, xI_nil, binBool, gcE, evOpt, xI_block, xI_loopH, xI_condM, xI_exitM, xI_skip, xI_blk, exitA, ty2, ty3, ty4, ty33, eK42_0_0, eK42_1_2, eK42_2_4, eK42_2_3, eK42_2_2, hlt, hlt2, hw, hi, lst_read hg]
    simpa using h1
theorem d42n (a c : Int) (l : List Int) (len : Nat) (hlen : len = l.length) (hl : len ≤ 1048576) (σ : St) : ∀ (suf pre : List Int), l = pre ++ suf → allR suf 0 255 = false →
    exI TT (FI.of Try.f42 (TT.an 42)) K42_0 [(0, .int .i64 a), (1, .int .i64 c), (2, .lst len (ints l)), (8, .int .i64 pre.length)] σ = some (.tup [.nilS, .bool false], σ) := by
  intro suf
  induction suf with
  | nil => intro pre hp h; simp [allR] at h
  | cons x suf ih =>
    intro pre hp hx
    have hll : len = pre.length + (suf.length + 1) := by rw [hlen, hp]; simp
    have hg : l[pre.length]? = some x := by simp [hp]
    have hlt : ¬ len ≤ pre.length := by omega
    have hlt2 : pre.length < len := by omega
    have hw := wrapS (n := pre.length) (by omega)
    have hi := c88 x 0 255 σ
    cases hxx : inR x 0 255 with
    | true =>
      simp only [allR, List.all_cons, hxx, Bool.true_and] at hx
      have h1 := ih (pre ++ [x]) (by simp [hp]) hx
      rw [hxx] at hi
      simp only [List.length_append, List.length_singleton] at h1
      rw [fi42] at h1 ⊢
      rw [xl42_0]
      simp only [B42_0, b42, Try.f42, Option.getD, fstC, sndC, bodyC, thnC, elsC]
      simp [xI_seq, xI_region, xI_ret, regA, regOps, runOps, opStep, wantedA, opA, evo, evos, calleeA, lk, nif_eq, putE, paramsE, valS, val2, keepE, restrict, finA, resA, binA, binInt, ofConst, ofConst1, loadA, TK.isAgg, asVar, unA, builtinA, lenOpA, lenA, ileb_cast, ileb_eq, ieqb_dec, indexAddrA, inB_dec, evPairs, storeA, AV.cellsOf, pairsOf, xI_nil, binBool, gcE, evOpt, xI_block, xI_loopH, xI_condM, xI_exitM, xI_skip, xI_blk, exitA, ty2, ty3, ty4, ty33, eK42_0_0, eK42_1_2, eK42_2_4, eK42_2_3, eK42_2_2, hlt, hlt2, hw, hi, lst_read hg]
      simpa using h1
    | false =>
      rw [hxx] at hi
      rw [fi42]
      rw [xl42_0]
      simp only [B42_0, b42, Try.f42, Option.getD, fstC, sndC, bodyC, thnC, elsC]
      simp [xI_seq, xI_region, xI_ret, regA, regOps, runOps, opStep, wantedA, opA, evo, evos, calleeA, lk, nif_eq, putE, paramsE, valS, val2, keepE, restrict, finA, resA, binA, binInt, ofConst, ofConst1, loadA, TK.isAgg, asVar, unA, builtinA, lenOpA, lenA, ileb_cast, ileb_eq, ieqb_dec, indexAddrA, inB_dec, evPairs, storeA, AV.cellsOf, pairsOf, xI_nil, binBool, gcE, evOpt, xI_block, xI_loopH, xI_condM, xI_exitM, xI_skip, xI_blk, exitA, ty2, ty3, ty4, ty33, eK42_0_0, eK42_1_2, eK42_2_4, eK42_2_3, eK42_2_2, hlt, hlt2, hw, hi, lst_read hg]
theorem i42 (a c : Nat) (ha : a ≤ 65535) (hc : c ≤ 65535) (A : List Nat) (hA : ∀ s ∈ A, s ≤ 255) (len : Nat) (hlen : len = A.length) (hl : len ≤ 64) (b q : Nat) (z kk : Int) (σ : St) : ∀ (suf pre : List Nat) (x : Nat) (fl : Bool), A = pre ++ suf → x ≤ 65535 →
    ∃ x' i' : Int, exI TT (FI.of Try.f42 (TT.an 42)) K42_2 [(0, .int .i64 a), (1, .int .i64 c), (2, .lst len (ints (nints A))), (9, .sl b 0 q q), (10, .int .i64 kk), (11, .int .i64 z), (12, .int .i64 x), (13, .bool fl), (14, .int .i64 pre.length)] σ =
      exI TT (FI.of Try.f42 (TT.an 42)) R42_2_4 [(0, .int .i64 a), (1, .int .i64 c), (2, .lst len (ints (nints A))), (9, .sl b 0 q q), (10, .int .i64 kk), (11, .int .i64 z), (12, .int .i64 x'), (13, .bool (fl && fit a c suf x)), (14, .int .i64 i'), (56, .bool false)] σ := by
  intro suf
  induction suf with
  | nil =>
    intro pre x fl hp hx
    have hll : len = pre.length := by rw [hlen, hp]; simp
    subst hll
    refine ⟨x, pre.length, ?_⟩
    rw [fi42]
    rw [xl42_2]
    simp only [B42_2, b42, Try.f42, Option.getD, fstC, sndC, bodyC, thnC, elsC]
    simp [xI_seq, xI_region, xI_ret, regA, regOps, runOps, opStep, wantedA, opA, evo, evos, calleeA, lk, nif_eq, putE, paramsE, valS, val2, keepE, restrict, finA, resA, binA, binInt, ofConst, ofConst1, loadA, TK.isAgg, asVar, unA, builtinA, lenOpA, lenA, ileb_cast, ileb_eq, ieqb_dec, indexAddrA, inB_dec, evPairs, storeA, AV.cellsOf, pairsOf, xI_nil, binBool, gcE, evOpt, xI_block, xI_loopH, xI_condM, xI_exitM, xI_skip, xI_blk, exitA, ty2, ty3, ty4, ty33, eK42_0_0, eK42_1_2, eK42_2_4, eK42_2_3, eK42_2_2, fit]
  | cons s suf ih =>
    intro pre x fl hp hx
    have hll : len = pre.length + (suf.length + 1) := by rw [hlen, hp]; simp
    have hg : (nints A)[pre.length]? = some (s : Int) := nints_get (by simp [hp])
    have hlt : ¬ len ≤ pre.length := by omega
    have hlt2 : pre.length < len := by omega
    have hw := wrapS (n := pre.length) (by omega)
    have hax : a * x ≤ 65535 * 65535 := Nat.mul_le_mul ha (by omega)
    have m1 : wrapA .i64 ((a : Int) * (x : Int)) = ((mulN a x : Nat) : Int) := by rw [← Int.natCast_mul]; exact n_wrap (a := mulN a x) (by show a * x ≤ _; omega)
    have m2 : wrapA .i64 (((mulN a x : Nat) : Int) + (c : Int)) = ((addN (mulN a x) c : Nat) : Int) := by rw [← Int.natCast_add]; exact n_wrap (a := addN (mulN a x) c) (by show a * x + c ≤ _; omega)
    have hx' : modN (addN (mulN a x) c) 65536 ≤ 65535 := by have : modN (addN (mulN a x) c) 65536 < 65536 := Nat.mod_lt _ (by decide)
                                                            omega
    have m3 : ((addN (mulN a x) c : Nat) : Int).tmod 65536 = ((modN (addN (mulN a x) c) 65536 : Nat) : Int) := rfl
    have m3' : ((addN (mulN a x) c : Nat) : Int) % 65536 = ((modN (addN (mulN a x) c) 65536 : Nat) : Int) := rfl
    have m4 : wrapA .i64 ((x : Int) / 256) = ((divN x 256 : Nat) : Int) := n_wrap (a := divN x 256) (by show x / 256 ≤ _; omega)
    obtain ⟨x', i', h1⟩ := ih (pre ++ [s]) (modN (addN (mulN a x) c) 65536) (fl && decide (divN x 256 = s)) (by simp [hp]) hx'
    refine ⟨x', i', ?_⟩
    rw [show (fl && fit a c (s :: suf) x) = ((fl && decide (divN x 256 = s)) && fit a c suf (modN (addN (mulN a x) c) 65536)) by simp [fit, Bool.and_assoc]]
    simp only [List.length_append, List.length_singleton] at h1
    cases fl with
    | false =>
      simp only [Bool.false_and] at h1 ⊢
      rw [fi42] at h1 ⊢
      rw [xl42_2]
      simp only [B42_2, b42, Try.f42, Option.getD, fstC, sndC, bodyC, thnC, elsC]
      simp [xI_seq, xI_region, xI_ret, regA, regOps, runOps, opStep, wantedA, opA, evo, evos, calleeA, lk, nif_eq, putE, paramsE, valS, val2, keepE, restrict, finA, resA, binA, binInt, ofConst, ofConst1, loadA, TK.isAgg, asVar, unA, builtinA, lenOpA, lenA, ileb_cast, ileb_eq, ieqb_dec, indexAddrA, inB_dec, evPairs, storeA, AV.cellsOf, pairsOf, xI_nil, binBool, gcE, evOpt, xI_block, xI_loopH, xI_condM, xI_exitM, xI_skip, xI_blk, exitA, ty2, ty3, ty4, ty33, eK42_0_0, eK42_1_2, eK42_2_4, eK42_2_3, eK42_2_2, hlt, hlt2, hw, m1, m2, m3, m3', m4, lst_read hg]
      simpa using h1
    | true =>
      simp only [Bool.true_and] at h1 ⊢
      by_cases hs : divN x 256 = s
      · have hs' : ((divN x 256 : Nat) : Int) = (s : Int) := by omega
        simp only [hs, decide_true] at h1 ⊢
        rw [hs] at m4
        rw [fi42] at h1 ⊢
        rw [xl42_2]
        simp only [B42_2, b42, Try.f42, Option.getD, fstC, sndC, bodyC, thnC, elsC]
        simp [xI_seq, xI_region, xI_ret, regA, regOps, runOps, opStep, wantedA, opA, evo, evos, calleeA, lk, nif_eq, putE, paramsE, valS, val2, keepE, restrict, finA, resA, binA, binInt, ofConst, ofConst1, loadA, TK.isAgg, asVar, unA, builtinA, lenOpA, lenA, ileb_cast, ileb_eq, ieqb_dec, indexAddrA, inB_dec, evPairs, storeA, AV.cellsOf, pairsOf, xI_nil, binBool, gcE, evOpt, xI_block, xI_loopH, xI_condM, xI_exitM, xI_skip, xI_blk, exitA, ty2, ty3, ty4, ty33, eK42_0_0, eK42_1_2, eK42_2_4, eK42_2_3, eK42_2_2, hlt, hlt2, hw, m1, m2, m3, m3', m4, lst_read hg]
        simpa using h1
      · have hs' : ¬ ((divN x 256 : Nat) : Int) = (s : Int) := by omega
        simp only [hs, decide_false] at h1 ⊢
        rw [fi42] at h1 ⊢
        rw [xl42_2]
        simp only [B42_2, b42, Try.f42, Option.getD, fstC, sndC, bodyC, thnC, elsC]
        simp [xI_seq, xI_region, xI_ret, regA, regOps, runOps, opStep, wantedA, opA, evo, evos, calleeA, lk, nif_eq, putE, paramsE, valS, val2, keepE, restrict, finA, resA, binA, binInt, ofConst, ofConst1, loadA, TK.isAgg, asVar, unA, builtinA, lenOpA, lenA, ileb_cast, ileb_eq, ieqb_dec, indexAddrA, inB_dec, evPairs, storeA, AV.cellsOf, pairsOf, xI_nil, binBool, gcE, evOpt, xI_block, xI_loopH, xI_condM, xI_exitM, xI_skip, xI_blk, exitA, ty2, ty3, ty4, ty33, eK42_0_0, eK42_1_2, eK42_2_4, eK42_2_3, eK42_2_2, hlt, hlt2, hw, m1, m2, m3, m3', m4, lst_read hg, hs', hs]
        simpa using h1
theorem l42 (a c : Nat) (ha : a ≤ 65535) (hc : c ≤ 65535) (s : Nat) (r : List Nat) (hA : ∀ t ∈ s :: r, t ≤ 255) (len : Nat) (hlen : len = (s :: r).length) (hl : len ≤ 64) : ∀ (m k : Nat) (out : List Nat) (b : Nat) (σ : St), k + m = 256 → out.length ≤ k → Row σ b (nints out) →
    ∃ σ' b' q', exI TT (FI.of Try.f42 (TT.an 42)) K42_1 [(0, .int .i64 a), (1, .int .i64 c), (2, .lst len (ints (nints (s :: r)))), (9, .sl b 0 out.length out.length), (10, .int .i64 k)] σ = some (.tup [.sl b' 0 q' q', .bool true], σ') ∧ q' = (out ++ scan (fun i => addN (mulN 256 s) i) (fit a c (s :: r)) m k).length ∧ Row σ' b' (nints (out ++ scan (fun i => addN (mulN 256 s) i) (fit a c (s :: r)) m k)) := by
  intro m
  induction m with
  | zero =>
    intro k out b σ hk ho hr
    obtain rfl : k = 256 := by omega
    refine ⟨σ, b, out.length, ?_, by simp [scan], by simpa [scan] using hr⟩
    rw [fi42]
    rw [xl42_1]
    simp only [B42_1, b42, Try.f42, Option.getD, fstC, sndC, bodyC, thnC, elsC]
    simp [xI_seq, xI_region, xI_ret, regA, regOps, runOps, opStep, wantedA, opA, evo, evos, calleeA, lk, nif_eq, putE, paramsE, valS, val2, keepE, restrict, finA, resA, binA, binInt, ofConst, ofConst1, loadA, TK.isAgg, asVar, unA, builtinA, lenOpA, lenA, ileb_cast, ileb_eq, ieqb_dec, indexAddrA, inB_dec, evPairs, storeA, AV.cellsOf, pairsOf, xI_nil, binBool, gcE, evOpt, xI_block, xI_loopH, xI_condM, xI_exitM, xI_skip, xI_blk, exitA, ty2, ty3, ty4, ty33, eK42_0_0, eK42_1_2, eK42_2_4, eK42_2_3, eK42_2_2]
    simp only [R42_1_2, b42, Try.f42, Option.getD, fstC, sndC, bodyC, thnC, elsC]
    simp [xI_seq, xI_region, xI_ret, regA, regOps, runOps, opStep, wantedA, opA, evo, evos, calleeA, lk, nif_eq, putE, paramsE, valS, val2, keepE, restrict, finA, resA, binA, binInt, ofConst, ofConst1, loadA, TK.isAgg, asVar, unA, builtinA, lenOpA, lenA, ileb_cast, ileb_eq, ieqb_dec, indexAddrA, inB_dec, evPairs, storeA, AV.cellsOf, pairsOf, xI_nil, binBool, gcE, evOpt, xI_block, xI_loopH, xI_condM, xI_exitM, xI_skip, xI_blk, exitA, ty2, ty3, ty4, ty33, eK42_0_0, eK42_1_2, eK42_2_4, eK42_2_3, eK42_2_2]
  | succ m ih =>
    intro k out b σ hk ho hr
    have hlt : ¬ (256 : Int) ≤ (k : Int) := by omega
    have hlt2 : (k : Int) < 256 := by omega
    have hw := wrapS (n := k) (by omega)
    have hs := hA s (by simp)
    have hg : (nints (s :: r))[0]? = some (s : Int) := rfl
    have h0 : 0 < len := by rw [hlen]; simp
    have n1 : wrapA .i64 (256 * (s : Int)) = ((mulN 256 s : Nat) : Int) := n_wrap (a := mulN 256 s) (by show 256 * s ≤ _; omega)
    have n2 : wrapA .i64 (((mulN 256 s : Nat) : Int) + (k : Int)) = ((addN (mulN 256 s) k : Nat) : Int) := by rw [← Int.natCast_add]; exact n_wrap (a := addN (mulN 256 s) k) (by show 256 * s + k ≤ _; omega)
    have hz : addN (mulN 256 s) k ≤ 65535 := by show 256 * s + k ≤ _; omega
    obtain ⟨x', i', h1⟩ := i42 a c ha hc (s :: r) hA len hlen hl b out.length (addN (mulN 256 s) k) k σ (s :: r) [] (addN (mulN 256 s) k) true rfl hz
    simp only [List.length_nil, Int.natCast_zero, show ((0 : Nat) : Int) = 0 from rfl, Bool.true_and] at h1
    cases hf : fit a c (s :: r) (addN (mulN 256 s) k) with
    | true =>
      obtain ⟨σ1, hap, hr1, hn1, _⟩ := nints_append_row (x := addN (mulN 256 s) k) ty33 ty2 hr (n := out.length) rfl (by omega)
      obtain ⟨σ', b', q', h2, h3, h4⟩ := ih (k + 1) (out ++ [addN (mulN 256 s) k]) _ σ1 (by omega) (by simp; omega) hr1
      refine ⟨σ', b', q', ?_, by rw [h3]; simp [scan, hf], by simpa [scan, hf] using h4⟩
      rw [hf] at h1
      simp only [List.length_append, List.length_singleton] at h2
      rw [fi42] at h1 h2 ⊢
      rw [xl42_1]
      simp only [B42_1, b42, Try.f42, Option.getD, fstC, sndC, bodyC, thnC, elsC]
      simp [xI_seq, xI_region, xI_ret, regA, regOps, runOps, opStep, wantedA, opA, evo, evos, calleeA, lk, nif_eq, putE, paramsE, valS, val2, keepE, restrict, finA, resA, binA, binInt, ofConst, ofConst1, loadA, TK.isAgg, asVar, unA, builtinA, lenOpA, lenA, ileb_cast, ileb_eq, ieqb_dec, indexAddrA, inB_dec, evPairs, storeA, AV.cellsOf, pairsOf, xI_nil, binBool, gcE, evOpt, xI_block, xI_loopH, xI_condM, xI_exitM, xI_skip, xI_blk, exitA, ty2, ty3, ty4, ty33, eK42_0_0, eK42_1_2, eK42_2_4, eK42_2_3, eK42_2_2, hlt, hlt2, hw, n1, n2, lst_read hg, h0]
      refine h1.trans ?_
      simp only [R42_2_4, b42, Try.f42, Option.getD, fstC, sndC, bodyC, thnC, elsC]
      simp [xI_seq, xI_region, xI_ret, regA, regOps, runOps, opStep, wantedA, opA, evo, evos, calleeA, lk, nif_eq, putE, paramsE, valS, val2, keepE, restrict, finA, resA, binA, binInt, ofConst, ofConst1, loadA, TK.isAgg, asVar, unA, builtinA, lenOpA, lenA, ileb_cast, ileb_eq, ieqb_dec, indexAddrA, inB_dec, evPairs, storeA, AV.cellsOf, pairsOf, xI_nil, binBool, gcE, evOpt, xI_block, xI_loopH, xI_condM, xI_exitM, xI_skip, xI_blk, exitA, ty2, ty3, ty4, ty33, eK42_0_0, eK42_1_2, eK42_2_4, eK42_2_3, eK42_2_2, hlt, hlt2, hw, bs1, hap]
      simpa using h2
    | false =>
      obtain ⟨σ', b', q', h2, h3, h4⟩ := ih (k + 1) out b σ (by omega) (by omega) hr
      refine ⟨σ', b', q', ?_, by rw [h3]; simp [scan, hf], by simpa [scan, hf] using h4⟩
      rw [hf] at h1
      rw [fi42] at h1 h2 ⊢
      rw [xl42_1]
      simp only [B42_1, b42, Try.f42, Option.getD, fstC, sndC, bodyC, thnC, elsC]
      simp [xI_seq, xI_region, xI_ret, regA, regOps, runOps, opStep, wantedA, opA, evo, evos, calleeA, lk, nif_eq, putE, paramsE, valS, val2, keepE, restrict, finA, resA, binA, binInt, ofConst, ofConst1, loadA, TK.isAgg, asVar, unA, builtinA, lenOpA, lenA, ileb_cast, ileb_eq, ieqb_dec, indexAddrA, inB_dec, evPairs, storeA, AV.cellsOf, pairsOf, xI_nil, binBool, gcE, evOpt, xI_block, xI_loopH, xI_condM, xI_exitM, xI_skip, xI_blk, exitA, ty2, ty3, ty4, ty33, eK42_0_0, eK42_1_2, eK42_2_4, eK42_2_3, eK42_2_2, hlt, hlt2, hw, n1, n2, lst_read hg, h0]
      refine h1.trans ?_
      simp only [R42_2_4, b42, Try.f42, Option.getD, fstC, sndC, bodyC, thnC, elsC]
      simp [xI_seq, xI_region, xI_ret, regA, regOps, runOps, opStep, wantedA, opA, evo, evos, calleeA, lk, nif_eq, putE, paramsE, valS, val2, keepE, restrict, finA, resA, binA, binInt, ofConst, ofConst1, loadA, TK.isAgg, asVar, unA, builtinA, lenOpA, lenA, ileb_cast, ileb_eq, ieqb_dec, indexAddrA, inB_dec, evPairs, storeA, AV.cellsOf, pairsOf, xI_nil, binBool, gcE, evOpt, xI_block, xI_loopH, xI_condM, xI_exitM, xI_skip, xI_blk, exitA, ty2, ty3, ty4, ty33, eK42_0_0, eK42_1_2, eK42_2_4, eK42_2_3, eK42_2_2, hlt, hlt2, hw, bs1]
      simpa using h2
theorem o42 (a c : Int) (l : List Int) (hl : l.length ≤ 1048576) : FnO TT 42 [.int .i64 a, .int .i64 c, .lst l.length (ints l)] (sbR a c l) := by
  have e1 := c73 a ⟨[], 0⟩
  have e2 := c73 c ⟨[], 0⟩
  have e3 := c88 l.length 1 64 ⟨[], 0⟩
  cases hk : sbOk a c l with
  | false =>
    rw [sbR_no hk]
    refine FnO.mkN fn42 rfl md42 ⟨⟨[], 0⟩, ?_⟩
    simp only [sbOk] at hk
    cases h1 : inR a 0 65535 with
    | false =>
      rw [fi42]
      simp [xI_seq, xI_region, xI_ret, regA, regOps, runOps, opStep, wantedA, opA, evo, evos, calleeA, lk, nif_eq, putE, paramsE, valS, val2, keepE, restrict, finA, resA, binA, binInt, ofConst, ofConst1, loadA, TK.isAgg, asVar, unA, builtinA, lenOpA, lenA, ileb_cast, ileb_eq, ieqb_dec, indexAddrA, inB_dec, evPairs, storeA, AV.cellsOf, pairsOf, xI_nil, binBool, gcE, evOpt, xI_block, xI_loopH, xI_condM, xI_exitM, xI_skip, xI_blk, exitA, ty2, ty3, ty4, ty33, eK42_0_0, eK42_1_2, eK42_2_4, eK42_2_3, eK42_2_2, h1, e1, e2, e3]
    | true =>
      cases h2 : inR c 0 65535 with
      | false =>
        rw [fi42]
        simp [xI_seq, xI_region, xI_ret, regA, regOps, runOps, opStep, wantedA, opA, evo, evos, calleeA, lk, nif_eq, putE, paramsE, valS, val2, keepE, restrict, finA, resA, binA, binInt, ofConst, ofConst1, loadA, TK.isAgg, asVar, unA, builtinA, lenOpA, lenA, ileb_cast, ileb_eq, ieqb_dec, indexAddrA, inB_dec, evPairs, storeA, AV.cellsOf, pairsOf, xI_nil, binBool, gcE, evOpt, xI_block, xI_loopH, xI_condM, xI_exitM, xI_skip, xI_blk, exitA, ty2, ty3, ty4, ty33, eK42_0_0, eK42_1_2, eK42_2_4, eK42_2_3, eK42_2_2, h1, h2, e1, e2, e3]
      | true =>
        cases h3 : inR l.length 1 64 with
        | false =>
          rw [fi42]
          simp [xI_seq, xI_region, xI_ret, regA, regOps, runOps, opStep, wantedA, opA, evo, evos, calleeA, lk, nif_eq, putE, paramsE, valS, val2, keepE, restrict, finA, resA, binA, binInt, ofConst, ofConst1, loadA, TK.isAgg, asVar, unA, builtinA, lenOpA, lenA, ileb_cast, ileb_eq, ieqb_dec, indexAddrA, inB_dec, evPairs, storeA, AV.cellsOf, pairsOf, xI_nil, binBool, gcE, evOpt, xI_block, xI_loopH, xI_condM, xI_exitM, xI_skip, xI_blk, exitA, ty2, ty3, ty4, ty33, eK42_0_0, eK42_1_2, eK42_2_4, eK42_2_3, eK42_2_2, h1, h2, h3, e1, e2, e3]
        | true =>
          have h4 : allR l 0 255 = false := by simpa [h1, h2, h3] using hk
          have h5 := d42n a c l l.length rfl hl ⟨[], 0⟩ l [] rfl h4
          simp only [List.length_nil, Int.natCast_zero, show ((0 : Nat) : Int) = 0 from rfl] at h5
          rw [← h5, fi42]
          simp [xI_seq, xI_region, xI_ret, regA, regOps, runOps, opStep, wantedA, opA, evo, evos, calleeA, lk, nif_eq, putE, paramsE, valS, val2, keepE, restrict, finA, resA, binA, binInt, ofConst, ofConst1, loadA, TK.isAgg, asVar, unA, builtinA, lenOpA, lenA, ileb_cast, ileb_eq, ieqb_dec, indexAddrA, inB_dec, evPairs, storeA, AV.cellsOf, pairsOf, xI_nil, binBool, gcE, evOpt, xI_block, xI_loopH, xI_condM, xI_exitM, xI_skip, xI_blk, exitA, ty2, ty3, ty4, ty33, eK42_0_0, eK42_1_2, eK42_2_4, eK42_2_3, eK42_2_2, h1, h2, h3, e1, e2, e3]
          rfl
  | true =>
    obtain ⟨x, y, s, r, rfl, rfl, rfl, h1, h2, h3, h4⟩ := sb_nat hk
    have hk0 := hk
    simp only [sbOk, Bool.and_eq_true] at hk
    obtain ⟨⟨⟨k1, k2⟩, k3⟩, k4⟩ := hk
    rw [sbR_yes hk0, seeds_same x y s r (h4 s (by simp))]
    obtain ⟨σ', b', q', g1, g2, g3⟩ := l42 x y h1 h2 s r h4 (s :: r).length rfl h3 256 0 [] 0 ((⟨[], 0⟩ : St).push ⟨ints [], 1, false⟩) rfl (Nat.le_refl _) Row.push
    rw [List.nil_append] at g2 g3
    obtain ⟨o, g4, _⟩ := g3
    simp only [List.length_nil, Int.natCast_zero, show ((0 : Nat) : Int) = 0 from rfl] at g1
    refine FnO.mkS fn42 rfl md42 ⟨σ', b', o, ?_, g4⟩
    have h5 := d42y x y (nints (s :: r)) (nints (s :: r)).length rfl hl ⟨[], 0⟩ (nints (s :: r)) [] rfl k4
    simp only [List.length_nil, Int.natCast_zero, show ((0 : Nat) : Int) = 0 from rfl] at h5
    have gq : (nints (scan (fun i => addN (mulN 256 s) i) (fit x y (s :: r)) 256 0)).length = q' := by rw [nints_length, ← g2]
    rw [gq, ← g1, fi42]
    rw [fi42] at h5
    rw [k1] at e1
    rw [k2] at e2
    rw [k3] at e3
    simp [xI_seq, xI_region, xI_ret, regA, regOps, runOps, opStep, wantedA, opA, evo, evos, calleeA, lk, nif_eq, putE, paramsE, valS, val2, keepE, restrict, finA, resA, binA, binInt, ofConst, ofConst1, loadA, TK.isAgg, asVar, unA, builtinA, lenOpA, lenA, ileb_cast, ileb_eq, ieqb_dec, indexAddrA, inB_dec, evPairs, storeA, AV.cellsOf, pairsOf, xI_nil, binBool, gcE, evOpt, xI_block, xI_loopH, xI_condM, xI_exitM, xI_skip, xI_blk, exitA, ty2, ty3, ty4, ty33, eK42_0_0, eK42_1_2, eK42_2_4, eK42_2_3, eK42_2_2, e1, e2, e3]
    refine h5.trans ?_
    simp only [R42_0_0, b42, Try.f42, Option.getD, fstC, sndC, bodyC, thnC, elsC]
    simp [xI_seq, xI_region, xI_ret, regA, regOps, runOps, opStep, wantedA, opA, evo, evos, calleeA, lk, nif_eq, putE, paramsE, valS, val2, keepE, restrict, finA, resA, binA, binInt, ofConst, ofConst1, loadA, TK.isAgg, asVar, unA, builtinA, lenOpA, lenA, ileb_cast, ileb_eq, ieqb_dec, indexAddrA, inB_dec, evPairs, storeA, AV.cellsOf, pairsOf, xI_nil, binBool, gcE, evOpt, xI_block, xI_loopH, xI_condM, xI_exitM, xI_skip, xI_blk, exitA, ty2, ty3, ty4, ty33, eK42_0_0, eK42_1_2, eK42_2_4, eK42_2_3, eK42_2_2, bn0, nints_length]
    rfl

set_option maxHeartbeats 2000000 in
theorem w8 (a : Int) (c : Int) (v : AV) (l : List Int) (hv : (v = .lst l.length (ints l)) ∨ (v = .nilS ∧ l = [])) : FnV TT 8 [.int .i64 a, .int .i64 c, v] (.bool true) := by
  refine FnV.mk fn8 rfl md8 ?_ (fun _ => rfl) rfl
  rw [fi8]
  rcases hv with rfl | ⟨rfl, rfl⟩
  · by_cases hbig : 1048576 < l.length
    · refine ⟨⟨[], 0⟩, ?_⟩
      have hbig' : ¬ (l.length : Int) ≤ 1048576 := by omega
      simp [xI_seq, xI_region, xI_ret, regA, regOps, runOps, opStep, wantedA, opA, evo, evos, calleeA, lk, nif_eq, putE, paramsE, valS, val2, keepE, restrict, finA, resA, binA, binInt, ofConst, ofConst1, loadA, TK.isAgg, asVar, unA, builtinA, lenOpA, lenA, ileb_cast, ileb_eq, ieqb_dec, indexAddrA, inB_dec, evPairs, storeA, AV.cellsOf, pairsOf, xI_nil, binBool, gcE, evOpt, xI_block, xI_loopH, xI_condM, xI_exitM, xI_skip, xI_blk, exitA, ty2, ty3, ty4, ty33, hbig, hbig']
    · have hl : l.length ≤ 1048576 := by omega
      have hout : ∀ out, sbR a c l = some out → out.length ≤ 65536 := fun _ h => sbR_length h
      cases hx : sbR a c l with
      | none =>
        have hS := o42 a c l (by omega)
        have hI := o28 a c l (by omega)
        rw [hx] at hS hI
        obtain ⟨b1, σ1, c1, r1, o1, e1⟩ := FnS.row (s43 l l.length rfl (by omega)) (σ := (⟨[], 0⟩ : St)) (args := [.lst l.length (ints l)]) rfl
        have c2 := FnO.nil hS (σ := σ1) (args := [.int .i64 a, .int .i64 c, .sl b1 0 l.length l.length]) (mapO_cons rfl (mapO_cons rfl (mapO_cons (r1.frz rfl (Nat.le_refl _)) rfl)))
        have := r1.lt
        obtain ⟨b3, σ3, c3, r3, o3, e3⟩ := FnS.row (s43 l l.length rfl (by omega)) (σ := σ1) (args := [.lst l.length (ints l)]) rfl
        replace r1 := r1.old o3
        have c4 := FnO.nil hI (σ := σ3) (args := [.int .i64 a, .int .i64 c, .sl b3 0 l.length l.length]) (mapO_cons rfl (mapO_cons rfl (mapO_cons (r3.frz rfl (Nat.le_refl _)) rfl)))
        have c5 := v44n σ3 [.nilS, .nilS] rfl
        have := r1.lt
        have := r3.lt
        obtain ⟨b6, σ6, c6, r6, o6, e6⟩ := FnS.row (s43 l l.length rfl (by omega)) (σ := σ3) (args := [.lst l.length (ints l)]) rfl
        replace r1 := r1.old o6
        replace r3 := r3.old o6
        have c7 := v44 l l l.length l.length rfl rfl (by omega) σ6 [.sl b3 0 l.length l.length, .sl b6 0 l.length l.length] (mapO_cons (r3.frz rfl (Nat.le_refl _)) (mapO_cons (r6.frz rfl (Nat.le_refl _)) rfl))
        simp only [decide_true] at c7
        obtain ⟨σ8, c8, q8, u8⟩ := m45 σ6 b3 l.length 1 l rfl (by omega) (by omega) r3
        replace r1 := r1.but (by omega) u8
        replace r6 := r6.but (by omega) u8
        have z8 := u8.1
        have c9 := v44n σ8 [.nilS, .nilS] rfl
        have c10 := m45n σ8 1
        have c11 := v46n 1 σ8 [.nilS, .int .i64 (1 : Nat)] rfl
        have := r1.lt
        have := q8.lt
        have := r6.lt
        obtain ⟨b12, σ12, c12, r12, o12, e12⟩ := FnS.row (s43 l l.length rfl (by omega)) (σ := σ8) (args := [.lst l.length (ints l)]) rfl
        replace r1 := r1.old o12
        replace q8 := q8.old o12
        replace r6 := r6.old o12
        have c13 := FnO.nil hI (σ := σ12) (args := [.int .i64 a, .int .i64 c, .sl b12 0 l.length l.length]) (mapO_cons rfl (mapO_cons rfl (mapO_cons (r12.frz rfl (Nat.le_refl _)) rfl)))
        have c14 := v44n σ12 [.nilS, .nilS] rfl
        have c15 := v46n 1 σ12 [.nilS, .int .i64 (1 : Nat)] rfl
        refine ⟨σ12, ?_⟩
        clear hS hI
        simp only [show ((1 : Nat) : Int) = 1 from rfl, Int.natCast_add] at c1 c2 c3 c4 c5 c6 c7 c8 c9 c10 c11 c12 c13 c14 c15
        have hz1 : (0 : Int) ≤ 1 + (l.length : Int) := by omega
        have hbg : (l.length : Int) ≤ 1048576 := by omega
        simp [xI_seq, xI_region, xI_ret, regA, regOps, runOps, opStep, wantedA, opA, evo, evos, calleeA, lk, nif_eq, putE, paramsE, valS, val2, keepE, restrict, finA, resA, binA, binInt, ofConst, ofConst1, loadA, TK.isAgg, asVar, unA, builtinA, lenOpA, lenA, ileb_cast, ileb_eq, ieqb_dec, indexAddrA, inB_dec, evPairs, storeA, AV.cellsOf, pairsOf, xI_nil, binBool, gcE, evOpt, xI_block, xI_loopH, xI_condM, xI_exitM, xI_skip, xI_blk, exitA, ty2, ty3, ty4, ty33, c1, c2, c3, c4, c5, c6, c7, c8, c9, c10, c11, c12, c13, c14, c15, hz1, hbg]
      | some out =>
        have hS := o42 a c l (by omega)
        have hI := o28 a c l (by omega)
        rw [hx] at hS hI
        have hlo : out.length < 1000000 := by have := hout out hx; omega
        obtain ⟨b1, σ1, c1, r1, o1, e1⟩ := FnS.row (s43 l l.length rfl (by omega)) (σ := (⟨[], 0⟩ : St)) (args := [.lst l.length (ints l)]) rfl
        have := r1.lt
        obtain ⟨b2, σ2, c2, r2, o2, e2⟩ := FnO.row hS (σ := σ1) (args := [.int .i64 a, .int .i64 c, .sl b1 0 l.length l.length]) (mapO_cons rfl (mapO_cons rfl (mapO_cons (r1.frz rfl (Nat.le_refl _)) rfl)))
        replace r1 := r1.old o2
        have := r1.lt
        have := r2.lt
        obtain ⟨b3, σ3, c3, r3, o3, e3⟩ := FnS.row (s43 l l.length rfl (by omega)) (σ := σ2) (args := [.lst l.length (ints l)]) rfl
        replace r1 := r1.old o3
        replace r2 := r2.old o3
        have := r1.lt
        have := r2.lt
        have := r3.lt
        obtain ⟨b4, σ4, c4, r4, o4, e4⟩ := FnO.row hI (σ := σ3) (args := [.int .i64 a, .int .i64 c, .sl b3 0 l.length l.length]) (mapO_cons rfl (mapO_cons rfl (mapO_cons (r3.frz rfl (Nat.le_refl _)) rfl)))
        replace r1 := r1.old o4
        replace r2 := r2.old o4
        replace r3 := r3.old o4
        have c5 := v44 out out out.length out.length rfl rfl (by omega) σ4 [.sl b4 0 out.length out.length, .sl b2 0 out.length out.length] (mapO_cons (r4.frz rfl (Nat.le_refl _)) (mapO_cons (r2.frz rfl (Nat.le_refl _)) rfl))
        simp only [decide_true] at c5
        have := r1.lt
        have := r2.lt
        have := r3.lt
        have := r4.lt
        obtain ⟨b6, σ6, c6, r6, o6, e6⟩ := FnS.row (s43 l l.length rfl (by omega)) (σ := σ4) (args := [.lst l.length (ints l)]) rfl
        replace r1 := r1.old o6
        replace r2 := r2.old o6
        replace r3 := r3.old o6
        replace r4 := r4.old o6
        have c7 := v44 l l l.length l.length rfl rfl (by omega) σ6 [.sl b3 0 l.length l.length, .sl b6 0 l.length l.length] (mapO_cons (r3.frz rfl (Nat.le_refl _)) (mapO_cons (r6.frz rfl (Nat.le_refl _)) rfl))
        simp only [decide_true] at c7
        obtain ⟨σ8, c8, q8, u8⟩ := m45 σ6 b3 l.length 1 l rfl (by omega) (by omega) r3
        replace r1 := r1.but (by omega) u8
        replace r2 := r2.but (by omega) u8
        replace r4 := r4.but (by omega) u8
        replace r6 := r6.but (by omega) u8
        have z8 := u8.1
        have c9 := v44 out out out.length out.length rfl rfl (by omega) σ8 [.sl b4 0 out.length out.length, .sl b2 0 out.length out.length] (mapO_cons (r4.frz rfl (Nat.le_refl _)) (mapO_cons (r2.frz rfl (Nat.le_refl _)) rfl))
        simp only [decide_true] at c9
        obtain ⟨σ10, c10, q10, u10⟩ := m45 σ8 b4 out.length 1 out rfl (by omega) (by omega) r4
        replace r1 := r1.but (by omega) u10
        replace r2 := r2.but (by omega) u10
        replace q8 := q8.but (by omega) u10
        replace r6 := r6.but (by omega) u10
        have z10 := u10.1
        have c11 := v46 out.length 1 (by omega) (by omega) σ10 [.sl b4 0 out.length out.length, .int .i64 (1 : Nat)] (mapO_cons (q10.frz (iotaF_length _ _).symm (Nat.le_refl _)) rfl)
        have := r1.lt
        have := r2.lt
        have := q8.lt
        have := q10.lt
        have := r6.lt
        obtain ⟨b12, σ12, c12, r12, o12, e12⟩ := FnS.row (s43 l l.length rfl (by omega)) (σ := σ10) (args := [.lst l.length (ints l)]) rfl
        replace r1 := r1.old o12
        replace r2 := r2.old o12
        replace q8 := q8.old o12
        replace q10 := q10.old o12
        replace r6 := r6.old o12
        have := r1.lt
        have := r2.lt
        have := q8.lt
        have := q10.lt
        have := r6.lt
        have := r12.lt
        obtain ⟨b13, σ13, c13, r13, o13, e13⟩ := FnO.row hI (σ := σ12) (args := [.int .i64 a, .int .i64 c, .sl b12 0 l.length l.length]) (mapO_cons rfl (mapO_cons rfl (mapO_cons (r12.frz rfl (Nat.le_refl _)) rfl)))
        replace r1 := r1.old o13
        replace r2 := r2.old o13
        replace q8 := q8.old o13
        replace q10 := q10.old o13
        replace r6 := r6.old o13
        replace r12 := r12.old o13
        have c14 := v44 out out out.length out.length rfl rfl (by omega) σ13 [.sl b13 0 out.length out.length, .sl b2 0 out.length out.length] (mapO_cons (r13.frz rfl (Nat.le_refl _)) (mapO_cons (r2.frz rfl (Nat.le_refl _)) rfl))
        simp only [decide_true] at c14
        have c15 := v46 out.length 1 (by omega) (by omega) σ13 [.sl b4 0 out.length out.length, .int .i64 (1 : Nat)] (mapO_cons (q10.frz (iotaF_length _ _).symm (Nat.le_refl _)) rfl)
        refine ⟨σ13, ?_⟩
        clear hS hI
        simp only [show ((1 : Nat) : Int) = 1 from rfl, Int.natCast_add] at c1 c2 c3 c4 c5 c6 c7 c8 c9 c10 c11 c12 c13 c14 c15
        have hz1 : (0 : Int) ≤ 1 + (l.length : Int) := by omega
        have hbg : (l.length : Int) ≤ 1048576 := by omega
        have hz2 : (0 : Int) ≤ 1 + (out.length : Int) := by omega
        simp [xI_seq, xI_region, xI_ret, regA, regOps, runOps, opStep, wantedA, opA, evo, evos, calleeA, lk, nif_eq, putE, paramsE, valS, val2, keepE, restrict, finA, resA, binA, binInt, ofConst, ofConst1, loadA, TK.isAgg, asVar, unA, builtinA, lenOpA, lenA, ileb_cast, ileb_eq, ieqb_dec, indexAddrA, inB_dec, evPairs, storeA, AV.cellsOf, pairsOf, xI_nil, binBool, gcE, evOpt, xI_block, xI_loopH, xI_condM, xI_exitM, xI_skip, xI_blk, exitA, ty2, ty3, ty4, ty33, c1, c2, c3, c4, c5, c6, c7, c8, c9, c10, c11, c12, c13, c14, c15, hz1, hbg, hz2]
  · have hl : ([] : List Int).length ≤ 1048576 := by decide
    generalize hnil : ([] : List Int) = l at *
    have hout : ∀ out, sbR a c l = some out → out.length ≤ 65536 := fun _ h => sbR_length h
    have hto : FnS TT 43 [.nilS] l := by rw [← hnil]; exact s43n
    cases hx : sbR a c l with
    | none =>
      have hS := o42 a c l (by omega)
      have hI := o28 a c l (by omega)
      rw [hx] at hS hI
      obtain ⟨b1, σ1, c1, r1, o1, e1⟩ := FnS.row hto (σ := (⟨[], 0⟩ : St)) (args := [.nilS]) rfl
      have c2 := FnO.nil hS (σ := σ1) (args := [.int .i64 a, .int .i64 c, .sl b1 0 l.length l.length]) (mapO_cons rfl (mapO_cons rfl (mapO_cons (r1.frz rfl (Nat.le_refl _)) rfl)))
      have := r1.lt
      obtain ⟨b3, σ3, c3, r3, o3, e3⟩ := FnS.row hto (σ := σ1) (args := [.nilS]) rfl
      replace r1 := r1.old o3
      have c4 := FnO.nil hI (σ := σ3) (args := [.int .i64 a, .int .i64 c, .sl b3 0 l.length l.length]) (mapO_cons rfl (mapO_cons rfl (mapO_cons (r3.frz rfl (Nat.le_refl _)) rfl)))
      have c5 := v44n σ3 [.nilS, .nilS] rfl
      have := r1.lt
      have := r3.lt
      obtain ⟨b6, σ6, c6, r6, o6, e6⟩ := FnS.row hto (σ := σ3) (args := [.nilS]) rfl
      replace r1 := r1.old o6
      replace r3 := r3.old o6
      have c7 := v44 l l l.length l.length rfl rfl (by omega) σ6 [.sl b3 0 l.length l.length, .sl b6 0 l.length l.length] (mapO_cons (r3.frz rfl (Nat.le_refl _)) (mapO_cons (r6.frz rfl (Nat.le_refl _)) rfl))
      simp only [decide_true] at c7
      obtain ⟨σ8, c8, q8, u8⟩ := m45 σ6 b3 l.length 1 l rfl (by omega) (by omega) r3
      replace r1 := r1.but (by omega) u8
      replace r6 := r6.but (by omega) u8
      have z8 := u8.1
      have c9 := v44n σ8 [.nilS, .nilS] rfl
      have c10 := m45n σ8 1
      have c11 := v46n 1 σ8 [.nilS, .int .i64 (1 : Nat)] rfl
      have := r1.lt
      have := q8.lt
      have := r6.lt
      obtain ⟨b12, σ12, c12, r12, o12, e12⟩ := FnS.row hto (σ := σ8) (args := [.nilS]) rfl
      replace r1 := r1.old o12
      replace q8 := q8.old o12
      replace r6 := r6.old o12
      have c13 := FnO.nil hI (σ := σ12) (args := [.int .i64 a, .int .i64 c, .sl b12 0 l.length l.length]) (mapO_cons rfl (mapO_cons rfl (mapO_cons (r12.frz rfl (Nat.le_refl _)) rfl)))
      have c14 := v44n σ12 [.nilS, .nilS] rfl
      have c15 := v46n 1 σ12 [.nilS, .int .i64 (1 : Nat)] rfl
      refine ⟨σ12, ?_⟩
      clear hS hI
      simp only [show ((1 : Nat) : Int) = 1 from rfl, Int.natCast_add] at c1 c2 c3 c4 c5 c6 c7 c8 c9 c10 c11 c12 c13 c14 c15
      have hz1 : (0 : Int) ≤ 1 + (l.length : Int) := by omega
      have hbg : (l.length : Int) ≤ 1048576 := by omega
      simp [xI_seq, xI_region, xI_ret, regA, regOps, runOps, opStep, wantedA, opA, evo, evos, calleeA, lk, nif_eq, putE, paramsE, valS, val2, keepE, restrict, finA, resA, binA, binInt, ofConst, ofConst1, loadA, TK.isAgg, asVar, unA, builtinA, lenOpA, lenA, ileb_cast, ileb_eq, ieqb_dec, indexAddrA, inB_dec, evPairs, storeA, AV.cellsOf, pairsOf, xI_nil, binBool, gcE, evOpt, xI_block, xI_loopH, xI_condM, xI_exitM, xI_skip, xI_blk, exitA, ty2, ty3, ty4, ty33, c1, c2, c3, c4, c5, c6, c7, c8, c9, c10, c11, c12, c13, c14, c15, hz1, hbg]
    | some out =>
      have hS := o42 a c l (by omega)
      have hI := o28 a c l (by omega)
      rw [hx] at hS hI
      have hlo : out.length < 1000000 := by have := hout out hx; omega
      obtain ⟨b1, σ1, c1, r1, o1, e1⟩ := FnS.row hto (σ := (⟨[], 0⟩ : St)) (args := [.nilS]) rfl
      have := r1.lt
      obtain ⟨b2, σ2, c2, r2, o2, e2⟩ := FnO.row hS (σ := σ1) (args := [.int .i64 a, .int .i64 c, .sl b1 0 l.length l.length]) (mapO_cons rfl (mapO_cons rfl (mapO_cons (r1.frz rfl (Nat.le_refl _)) rfl)))
      replace r1 := r1.old o2
      have := r1.lt
      have := r2.lt
      obtain ⟨b3, σ3, c3, r3, o3, e3⟩ := FnS.row hto (σ := σ2) (args := [.nilS]) rfl
      replace r1 := r1.old o3
      replace r2 := r2.old o3
      have := r1.lt
      have := r2.lt
      have := r3.lt
      obtain ⟨b4, σ4, c4, r4, o4, e4⟩ := FnO.row hI (σ := σ3) (args := [.int .i64 a, .int .i64 c, .sl b3 0 l.length l.length]) (mapO_cons rfl (mapO_cons rfl (mapO_cons (r3.frz rfl (Nat.le_refl _)) rfl)))
      replace r1 := r1.old o4
      replace r2 := r2.old o4
      replace r3 := r3.old o4
      have c5 := v44 out out out.length out.length rfl rfl (by omega) σ4 [.sl b4 0 out.length out.length, .sl b2 0 out.length out.length] (mapO_cons (r4.frz rfl (Nat.le_refl _)) (mapO_cons (r2.frz rfl (Nat.le_refl _)) rfl))
      simp only [decide_true] at c5
      have := r1.lt
      have := r2.lt
      have := r3.lt
      have := r4.lt
      obtain ⟨b6, σ6, c6, r6, o6, e6⟩ := FnS.row hto (σ := σ4) (args := [.nilS]) rfl
      replace r1 := r1.old o6
      replace r2 := r2.old o6
      replace r3 := r3.old o6
      replace r4 := r4.old o6
      have c7 := v44 l l l.length l.length rfl rfl (by omega) σ6 [.sl b3 0 l.length l.length, .sl b6 0 l.length l.length] (mapO_cons (r3.frz rfl (Nat.le_refl _)) (mapO_cons (r6.frz rfl (Nat.le_refl _)) rfl))
      simp only [decide_true] at c7
      obtain ⟨σ8, c8, q8, u8⟩ := m45 σ6 b3 l.length 1 l rfl (by omega) (by omega) r3
      replace r1 := r1.but (by omega) u8
      replace r2 := r2.but (by omega) u8
      replace r4 := r4.but (by omega) u8
      replace r6 := r6.but (by omega) u8
      have z8 := u8.1
      have c9 := v44 out out out.length out.length rfl rfl (by omega) σ8 [.sl b4 0 out.length out.length, .sl b2 0 out.length out.length] (mapO_cons (r4.frz rfl (Nat.le_refl _)) (mapO_cons (r2.frz rfl (Nat.le_refl _)) rfl))
      simp only [decide_true] at c9
      obtain ⟨σ10, c10, q10, u10⟩ := m45 σ8 b4 out.length 1 out rfl (by omega) (by omega) r4
      replace r1 := r1.but (by omega) u10
      replace r2 := r2.but (by omega) u10
      replace q8 := q8.but (by omega) u10
      replace r6 := r6.but (by omega) u10
      have z10 := u10.1
      have c11 := v46 out.length 1 (by omega) (by omega) σ10 [.sl b4 0 out.length out.length, .int .i64 (1 : Nat)] (mapO_cons (q10.frz (iotaF_length _ _).symm (Nat.le_refl _)) rfl)
      have := r1.lt
      have := r2.lt
      have := q8.lt
      have := q10.lt
      have := r6.lt
      obtain ⟨b12, σ12, c12, r12, o12, e12⟩ := FnS.row hto (σ := σ10) (args := [.nilS]) rfl
      replace r1 := r1.old o12
      replace r2 := r2.old o12
      replace q8 := q8.old o12
      replace q10 := q10.old o12
      replace r6 := r6.old o12
      have := r1.lt
      have := r2.lt
      have := q8.lt
      have := q10.lt
      have := r6.lt
      have := r12.lt
      obtain ⟨b13, σ13, c13, r13, o13, e13⟩ := FnO.row hI (σ := σ12) (args := [.int .i64 a, .int .i64 c, .sl b12 0 l.length l.length]) (mapO_cons rfl (mapO_cons rfl (mapO_cons (r12.frz rfl (Nat.le_refl _)) rfl)))
      replace r1 := r1.old o13
      replace r2 := r2.old o13
      replace q8 := q8.old o13
      replace q10 := q10.old o13
      replace r6 := r6.old o13
      replace r12 := r12.old o13
      have c14 := v44 out out out.length out.length rfl rfl (by omega) σ13 [.sl b13 0 out.length out.length, .sl b2 0 out.length out.length] (mapO_cons (r13.frz rfl (Nat.le_refl _)) (mapO_cons (r2.frz rfl (Nat.le_refl _)) rfl))
      simp only [decide_true] at c14
      have c15 := v46 out.length 1 (by omega) (by omega) σ13 [.sl b4 0 out.length out.length, .int .i64 (1 : Nat)] (mapO_cons (q10.frz (iotaF_length _ _).symm (Nat.le_refl _)) rfl)
      refine ⟨σ13, ?_⟩
      clear hS hI
      simp only [show ((1 : Nat) : Int) = 1 from rfl, Int.natCast_add] at c1 c2 c3 c4 c5 c6 c7 c8 c9 c10 c11 c12 c13 c14 c15
      have hz1 : (0 : Int) ≤ 1 + (l.length : Int) := by omega
      have hbg : (l.length : Int) ≤ 1048576 := by omega
      have hz2 : (0 : Int) ≤ 1 + (out.length : Int) := by omega
      simp [xI_seq, xI_region, xI_ret, regA, regOps, runOps, opStep, wantedA, opA, evo, evos, calleeA, lk, nif_eq, putE, paramsE, valS, val2, keepE, restrict, finA, resA, binA, binInt, ofConst, ofConst1, loadA, TK.isAgg, asVar, unA, builtinA, lenOpA, lenA, ileb_cast, ileb_eq, ieqb_dec, indexAddrA, inB_dec, evPairs, storeA, AV.cellsOf, pairsOf, xI_nil, binBool, gcE, evOpt, xI_block, xI_loopH, xI_condM, xI_exitM, xI_skip, xI_blk, exitA, ty2, ty3, ty4, ty33, c1, c2, c3, c4, c5, c6, c7, c8, c9, c10, c11, c12, c13, c14, c15, hz1, hbg, hz2]
end Go.Proofs.Ytonnbgjbohbibaa
