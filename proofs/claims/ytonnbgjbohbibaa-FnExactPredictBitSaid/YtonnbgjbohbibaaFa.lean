/- Laws: states behind what is seen. Nothing is claimed here; no condition. -/
import Derived.Test.YtonnbgjbohbibaaEz
namespace Go.Proofs.Ytonnbgjbohbibaa
open Go Go.Abs
set_option linter.unusedSimpArgs false
set_option linter.unusedVariables false
theorem v67 (n m : Nat) (l : List AV) (hn : n ≤ 9223372036854775807) (hm : m < 1000000000000) : FnV TT 67 [.lst n l, .int .i64 m] (.int .i64 (if n ≤ m then (m : Int) - n else -1)) := by
  refine FnV.mk fn67 rfl md67 ⟨⟨[], 0⟩, ?_⟩ (fun _ => rfl) rfl
  have h := wrapA_id (n := (m : Int) - n) (by omega) (by omega)
  rw [fi67]
  by_cases hl : n ≤ m
  · have h1 : ¬ ((m : Int) - n < 0) := by omega
    simp [xI_seq, xI_region, xI_ret, regA, regOps, runOps, opStep, wantedA, opA, evo, evos, calleeA, lk, nif_eq, putE, paramsE, valS, val2, keepE, restrict, finA, resA, binA, binInt, ofConst, ofConst1, loadA, TK.isAgg, asVar, unA, builtinA, lenOpA, lenA, ileb_cast, ileb_eq, ieqb_dec, indexAddrA, inB_dec, evPairs, storeA, AV.cellsOf, pairsOf, xI_nil, binBool, gcE, evOpt, xI_block, xI_loopH, xI_condM, xI_exitM, xI_skip, xI_blk, exitA, ty3, ty80, ty143, h, h1, hl]
  · have h1 : (m : Int) - n < 0 := by omega
    simp [xI_seq, xI_region, xI_ret, regA, regOps, runOps, opStep, wantedA, opA, evo, evos, calleeA, lk, nif_eq, putE, paramsE, valS, val2, keepE, restrict, finA, resA, binA, binInt, ofConst, ofConst1, loadA, TK.isAgg, asVar, unA, builtinA, lenOpA, lenA, ileb_cast, ileb_eq, ieqb_dec, indexAddrA, inB_dec, evPairs, storeA, AV.cellsOf, pairsOf, xI_nil, binBool, gcE, evOpt, xI_block, xI_loopH, xI_condM, xI_exitM, xI_skip, xI_blk, exitA, ty3, ty80, ty143, h, h1, hl]

theorem v122 (a b : Int) : FnV TT 122 [.agg [.int .i64 a, .int .i64 b]] (.agg [.int .i64 a, .int .i64 b]) := by
  refine FnV.mk fn122 rfl md122 ?_ (fun _ => rfl) rfl
  rw [fi122]
  simp [xI_seq, xI_region, xI_ret, regA, regOps, runOps, opStep, wantedA, opA, evo, evos, calleeA, lk, nif_eq, putE, paramsE, valS, val2, keepE, restrict, finA, resA, binA, binInt, ofConst, ofConst1, loadA, TK.isAgg, asVar, unA, builtinA, lenOpA, lenA, ileb_cast, ileb_eq, ieqb_dec, indexAddrA, inB_dec, evPairs, storeA, AV.cellsOf, pairsOf, xI_nil, binBool, gcE, evOpt, xI_block, xI_loopH, xI_condM, xI_exitM, xI_skip, xI_blk, exitA, ty2, ty76, ty143, cellsAt, getCells, takeN, dropN, fieldAddrA, allOne, AV.one, n_push, storeCellsA, putN, overN, ty2, ty33, ty38, ty41, St.push, St.get, St.set, hget, hset, ty76, ty143]

theorem v123 (a b : Int) : FnV TT 123 [.agg [.int .i64 a, .int .i64 b], .agg [.int .i64 a, .int .i64 b]] (.bool true) := by
  refine FnV.mk fn123 rfl md123 ?_ (fun _ => rfl) rfl
  rw [fi123]
  simp [xI_seq, xI_region, xI_ret, regA, regOps, runOps, opStep, wantedA, opA, evo, evos, calleeA, lk, nif_eq, putE, paramsE, valS, val2, keepE, restrict, finA, resA, binA, binInt, ofConst, ofConst1, loadA, TK.isAgg, asVar, unA, builtinA, lenOpA, lenA, ileb_cast, ileb_eq, ieqb_dec, indexAddrA, inB_dec, evPairs, storeA, AV.cellsOf, pairsOf, xI_nil, binBool, gcE, evOpt, xI_block, xI_loopH, xI_condM, xI_exitM, xI_skip, xI_blk, exitA, ty2, ty76, cellsAt, getCells, takeN, dropN, fieldAddrA, allOne, AV.one, n_push, storeCellsA, putN, overN, ty2, ty33, ty38, ty41, St.push, St.get, St.set, hget, hset, ty76, ty143]
def PRow (σ : St) (b : Nat) (l : List (Int × Int)) : Prop := ∃ o, σ.get b = some ⟨pairs l, 2, o⟩ ∧ b < σ.n
theorem putN_pairs : ∀ (l : List (Int × Int)) (i : Nat) (a b : Int), i < l.length → putN (i * 2) [.int .i64 a, .int .i64 b] (pairs l) = some (pairs (l.set i (a, b)))
  | [], _, _, _, h => by simp at h
  | (x, y) :: r, 0, a, b, _ => by simp [pairs, putN, overN]
  | (x, y) :: r, i + 1, a, b, h => by
    have ih := putN_pairs r i a b (by simpa using h)
    rw [show (i + 1) * 2 = i * 2 + 1 + 1 by omega]
    simp only [pairs, putN, ih, List.set_cons_succ]
theorem store_pairs {σ : St} {b i : Nat} {l : List (Int × Int)} {x y : Int} (hb : PRow σ b l) (h : i < l.length) : ∃ σ', storeCellsA σ b (i * 2) [.int .i64 x, .int .i64 y] = some σ' ∧ PRow σ' b (l.set i (x, y)) := by
  obtain ⟨o, hg, hlt⟩ := hb
  refine ⟨σ.set b ⟨pairs (l.set i (x, y)), 2, o⟩, ?_, o, get_set_eq hg, hlt⟩
  simp [storeCellsA, hg, allOne, AV.one, putN_pairs l i x y h]
theorem rep_pairs : ∀ n, repeatCells [.int .i64 0, .int .i64 0] n = pairs (List.replicate n (0, 0))
  | 0 => rfl
  | n + 1 => by rw [repeatCells, rep_pairs n]; rfl
theorem mapO_pairs {σ : St} {d : Nat} : ∀ (l : List (Int × Int)), mapO (frzV σ (d + 1)) (pairs l) = some (pairs l)
  | [] => rfl
  | (a, b) :: r => by simp only [pairs]; exact mapO_cons rfl (mapO_cons rfl (mapO_pairs r))
theorem PRow.frz {σ : St} {b d : Nat} {l : List (Int × Int)} (h : PRow σ b l) : frzV σ (d + 2) (.sl b 0 l.length l.length) = some (.lst l.length (pairs l)) := by
  obtain ⟨o, hg, _⟩ := h
  have hz : getCells (pairs l) 0 (l.length * 2) = some (pairs l) := by
    rw [getCells_eq, if_pos (by rw [pairs_length]; omega), List.drop_zero, List.take_of_length_le (by rw [pairs_length]; omega)]
  unfold frzV
  simp only [hg, hz, mapO_pairs]
  simp

noncomputable def b69 : Code := Try.f69.body.getD .skip
noncomputable def B69_0 : Code := (bodyC (bodyC (sndC (fstC (sndC (sndC b69))))))
noncomputable def K69_0 : List It := .lp B69_0 :: .blk 0 :: .code (sndC (sndC (sndC b69))) :: []
theorem xl69_0 {fi : FI} {env : Env} {σ : St} : exI TT fi K69_0 env σ = exI TT fi (.code B69_0 :: K69_0) env σ := by unfold K69_0; exact xI_lp
noncomputable def R69_0_0 : List It := .code (sndC (sndC (sndC b69))) :: []
theorem eK69_0_0 : exitA 0 K69_0 = some R69_0_0 := rfl
theorem l69 (l : List (Int × Int)) (len : Nat) (hlen : len = l.length) (hs : len ≤ 1048576) : ∀ (suf pre : List (Int × Int)) (σ : St) (b : Nat) (z : List (Int × Int)), l = pre ++ suf → z.length = suf.length → PRow σ b (pre ++ z) →
    ∃ σ', exI TT (FI.of Try.f69 (TT.an 69)) K69_0 [(0, .lst len (pairs l)), (3, .sl b 0 len len), (4, .int .i64 pre.length)] σ = some (.sl b 0 len len, σ') ∧ PRow σ' b l := by
  intro suf
  induction suf with
  | nil =>
    intro pre σ b z hl hz hr
    have hz : z = [] := by simpa using hz
    subst hz
    have hl : l = pre := by simpa using hl
    subst hl
    refine ⟨σ, ?_, by simpa using hr⟩
    subst hlen
    rw [fi69]
    rw [xl69_0]
    simp only [B69_0, b69, Try.f69, Option.getD, fstC, sndC, bodyC, thnC, elsC]
    simp [xI_seq, xI_region, xI_ret, regA, regOps, runOps, opStep, wantedA, opA, evo, evos, calleeA, lk, nif_eq, putE, paramsE, valS, val2, keepE, restrict, finA, resA, binA, binInt, ofConst, ofConst1, loadA, TK.isAgg, asVar, unA, builtinA, lenOpA, lenA, ileb_cast, ileb_eq, ieqb_dec, indexAddrA, inB_dec, evPairs, storeA, AV.cellsOf, pairsOf, xI_nil, binBool, gcE, evOpt, xI_block, xI_loopH, xI_condM, xI_exitM, xI_skip, xI_blk, exitA, ty3, ty74, ty76, ty80, ty143, eK69_0_0]
    simp only [R69_0_0, b69, Try.f69, Option.getD, fstC, sndC, bodyC, thnC, elsC]
    simp [xI_seq, xI_region, xI_ret, regA, regOps, runOps, opStep, wantedA, opA, evo, evos, calleeA, lk, nif_eq, putE, paramsE, valS, val2, keepE, restrict, finA, resA, binA, binInt, ofConst, ofConst1, loadA, TK.isAgg, asVar, unA, builtinA, lenOpA, lenA, ileb_cast, ileb_eq, ieqb_dec, indexAddrA, inB_dec, evPairs, storeA, AV.cellsOf, pairsOf, xI_nil, binBool, gcE, evOpt, xI_block, xI_loopH, xI_condM, xI_exitM, xI_skip, xI_blk, exitA, ty3, ty74, ty76, ty80, ty143, eK69_0_0]
  | cons x suf ih =>
    intro pre σ b z hl hz hr
    obtain ⟨y, z, rfl⟩ : ∃ y z', z = y :: z' := by cases z with | nil => simp at hz | cons y z => exact ⟨y, z, rfl⟩
    obtain ⟨xa, xb⟩ := x
    have hg : l[pre.length]? = some (xa, xb) := by simp [hl]
    have hll : len = pre.length + (suf.length + 1) := by rw [hlen, hl]; simp
    obtain ⟨q2, _, _⟩ := pairs_get hg
    have k2 : ∀ σ, cellsAt σ (.lp (pairs l) (pre.length * 2)) 2 = some [.int .i64 xa, .int .i64 xb] := fun σ => q2
    have ct : ∀ σ, callI TT 122 [.agg [.int .i64 xa, .int .i64 xb]] σ = some (.agg [.int .i64 xa, .int .i64 xb], σ) := fun σ => v122 xa xb σ _ rfl
    obtain ⟨σ1, hst, hr1⟩ := store_pairs (i := pre.length) (x := xa) (y := xb) hr (by simp)
    rw [show (pre ++ y :: z).set pre.length (xa, xb) = pre ++ [(xa, xb)] ++ z by simp] at hr1
    obtain ⟨σ', h1, h2⟩ := ih (pre ++ [(xa, xb)]) σ1 b z (by simp [hl]) (by simpa using hz) (by simpa using hr1)
    refine ⟨σ', ?_, h2⟩
    have hlt : ¬ len ≤ pre.length := by omega
    have hlt2 : pre.length < len := by omega
    have hw := wrapS (n := pre.length) (by omega)
    simp only [show (pre ++ [(xa, xb)]).length = pre.length + 1 by simp, Int.natCast_add, show ((1 : Nat) : Int) = 1 from rfl] at h1
    rw [fi69] at h1 ⊢
    rw [xl69_0]
    simp only [B69_0, b69, Try.f69, Option.getD, fstC, sndC, bodyC, thnC, elsC]
    simp [xI_seq, xI_region, xI_ret, regA, regOps, runOps, opStep, wantedA, opA, evo, evos, calleeA, lk, nif_eq, putE, paramsE, valS, val2, keepE, restrict, finA, resA, binA, binInt, ofConst, ofConst1, loadA, TK.isAgg, asVar, unA, builtinA, lenOpA, lenA, ileb_cast, ileb_eq, ieqb_dec, indexAddrA, inB_dec, evPairs, storeA, AV.cellsOf, pairsOf, xI_nil, binBool, gcE, evOpt, xI_block, xI_loopH, xI_condM, xI_exitM, xI_skip, xI_blk, exitA, ty3, ty74, ty76, ty80, ty143, eK69_0_0, fieldAddrA, allOne, AV.one, ty2, ty33, ty41, ty74, ty76, ty80, ty143, hw, hlt, hlt2, k2, ct, hst]
    exact h1
theorem v69 (l : List (Int × Int)) (hs : l.length ≤ 1048576) : FnF TT 69 [.lst l.length (pairs l)] (.lst l.length (pairs l)) := by
  have hm : makeSliceA TT ⟨[], 0⟩ 74 (.int .i64 l.length) (.int .i64 l.length) = some (.sl 0 0 l.length l.length, (⟨[], 0⟩ : St).push ⟨pairs (List.replicate l.length (0, 0)), 2, false⟩) := by
    unfold makeSliceA
    simp only [ty74, ty76]
    rw [if_pos ⟨by omega, by omega, by omega, by omega⟩]
    simp [rep_pairs]
  obtain ⟨σ', h1, h2⟩ := l69 l l.length rfl hs l [] ((⟨[], 0⟩ : St).push ⟨pairs (List.replicate l.length (0, 0)), 2, false⟩) 0 (List.replicate l.length (0, 0)) rfl (by simp) ⟨false, rfl, Nat.lt_succ_self _⟩
  refine FnF.mk fn69 rfl md69 ⟨σ', .sl 0 0 l.length l.length, ?_, h2.frz (d := 4)⟩
  simp only [List.length_nil, Int.natCast_zero, show ((0 : Nat) : Int) = 0 from rfl] at h1
  generalize l.length = n at *
  rw [← h1, fi69]
  simp [xI_seq, xI_region, xI_ret, regA, regOps, runOps, opStep, wantedA, opA, evo, evos, calleeA, lk, nif_eq, putE, paramsE, valS, val2, keepE, restrict, finA, resA, binA, binInt, ofConst, ofConst1, loadA, TK.isAgg, asVar, unA, builtinA, lenOpA, lenA, ileb_cast, ileb_eq, ieqb_dec, indexAddrA, inB_dec, evPairs, storeA, AV.cellsOf, pairsOf, xI_nil, binBool, gcE, evOpt, xI_block, xI_loopH, xI_condM, xI_exitM, xI_skip, xI_blk, exitA, ty3, ty74, ty76, ty80, ty143, eK69_0_0, hm]
  rfl

noncomputable def b70 : Code := Try.f70.body.getD .skip
noncomputable def B70_0 : Code := (bodyC (bodyC (sndC (fstC (sndC (sndC b70))))))
noncomputable def K70_0 : List It := .lp B70_0 :: .blk 0 :: .code (sndC (sndC (sndC b70))) :: []
theorem xl70_0 {fi : FI} {env : Env} {σ : St} : exI TT fi K70_0 env σ = exI TT fi (.code B70_0 :: K70_0) env σ := by unfold K70_0; exact xI_lp
noncomputable def R70_0_0 : List It := .code (sndC (sndC (sndC b70))) :: []
theorem eK70_0_0 : exitA 0 K70_0 = some R70_0_0 := rfl
theorem l70 (l : List (Int × Int)) (len : Nat) (hlen : len = l.length) (hs : len ≤ 1048576) (σ : St) : ∀ (suf pre : List (Int × Int)), l = pre ++ suf →
    exI TT (FI.of Try.f70 (TT.an 70)) K70_0 [(0, .lst len (pairs l)), (1, .lst len (pairs l)), (5, .int .i64 pre.length)] σ = some (.bool true, σ) := by
  intro suf
  induction suf with
  | nil =>
    intro pre hl
    have hll : len = pre.length := by rw [hlen, hl]; simp
    subst hll
    rw [fi70]
    rw [xl70_0]
    simp only [B70_0, b70, Try.f70, Option.getD, fstC, sndC, bodyC, thnC, elsC]
    simp [xI_seq, xI_region, xI_ret, regA, regOps, runOps, opStep, wantedA, opA, evo, evos, calleeA, lk, nif_eq, putE, paramsE, valS, val2, keepE, restrict, finA, resA, binA, binInt, ofConst, ofConst1, loadA, TK.isAgg, asVar, unA, builtinA, lenOpA, lenA, ileb_cast, ileb_eq, ieqb_dec, indexAddrA, inB_dec, evPairs, storeA, AV.cellsOf, pairsOf, xI_nil, binBool, gcE, evOpt, xI_block, xI_loopH, xI_condM, xI_exitM, xI_skip, xI_blk, exitA, ty3, ty4, ty74, ty76, eK70_0_0]
    simp only [R70_0_0, b70, Try.f70, Option.getD, fstC, sndC, bodyC, thnC, elsC]
    simp [xI_seq, xI_region, xI_ret, regA, regOps, runOps, opStep, wantedA, opA, evo, evos, calleeA, lk, nif_eq, putE, paramsE, valS, val2, keepE, restrict, finA, resA, binA, binInt, ofConst, ofConst1, loadA, TK.isAgg, asVar, unA, builtinA, lenOpA, lenA, ileb_cast, ileb_eq, ieqb_dec, indexAddrA, inB_dec, evPairs, storeA, AV.cellsOf, pairsOf, xI_nil, binBool, gcE, evOpt, xI_block, xI_loopH, xI_condM, xI_exitM, xI_skip, xI_blk, exitA, ty3, ty4, ty74, ty76, eK70_0_0]
  | cons x suf ih =>
    intro pre hl
    obtain ⟨xa, xb⟩ := x
    have hg : l[pre.length]? = some (xa, xb) := by simp [hl]
    have hll : len = pre.length + (suf.length + 1) := by rw [hlen, hl]; simp
    obtain ⟨q2, _, _⟩ := pairs_get hg
    have k2 : ∀ σ, cellsAt σ (.lp (pairs l) (pre.length * 2)) 2 = some [.int .i64 xa, .int .i64 xb] := fun σ => q2
    have ct : ∀ σ, callI TT 123 [.agg [.int .i64 xa, .int .i64 xb], .agg [.int .i64 xa, .int .i64 xb]] σ = some (.bool true, σ) := fun σ => v123 xa xb σ _ rfl
    have h1 := ih (pre ++ [(xa, xb)]) (by simp [hl])
    have hlt : ¬ len ≤ pre.length := by omega
    have hlt2 : pre.length < len := by omega
    have hw := wrapS (n := pre.length) (by omega)
    simp only [show (pre ++ [(xa, xb)]).length = pre.length + 1 by simp, Int.natCast_add, show ((1 : Nat) : Int) = 1 from rfl] at h1
    rw [fi70] at h1 ⊢
    rw [xl70_0]
    simp only [B70_0, b70, Try.f70, Option.getD, fstC, sndC, bodyC, thnC, elsC]
    simp [xI_seq, xI_region, xI_ret, regA, regOps, runOps, opStep, wantedA, opA, evo, evos, calleeA, lk, nif_eq, putE, paramsE, valS, val2, keepE, restrict, finA, resA, binA, binInt, ofConst, ofConst1, loadA, TK.isAgg, asVar, unA, builtinA, lenOpA, lenA, ileb_cast, ileb_eq, ieqb_dec, indexAddrA, inB_dec, evPairs, storeA, AV.cellsOf, pairsOf, xI_nil, binBool, gcE, evOpt, xI_block, xI_loopH, xI_condM, xI_exitM, xI_skip, xI_blk, exitA, ty3, ty4, ty74, ty76, eK70_0_0, runTr, pairsOk, pairOk, lstAt, lastOf, sameVal, AV.eqv, eqvs, eqvs_ints, regOps, blt_dec, cond_true, cond_false, fieldAddrA, allOne, AV.one, ty2, ty33, ty41, ty74, ty76, ty80, ty143, hw, hlt, hlt2, k2, ct]
    exact h1
theorem v70 (l : List (Int × Int)) (hs : l.length ≤ 1048576) : FnV TT 70 [.lst l.length (pairs l), .lst l.length (pairs l)] (.bool true) := by
  have h1 := l70 l l.length rfl hs ⟨[], 0⟩ l [] rfl
  refine FnV.mk fn70 rfl md70 ⟨⟨[], 0⟩, ?_⟩ (fun _ => rfl) rfl
  simp only [List.length_nil, Int.natCast_zero, show ((0 : Nat) : Int) = 0 from rfl] at h1
  generalize l.length = n at *
  rw [← h1, fi70]
  simp [xI_seq, xI_region, xI_ret, regA, regOps, runOps, opStep, wantedA, opA, evo, evos, calleeA, lk, nif_eq, putE, paramsE, valS, val2, keepE, restrict, finA, resA, binA, binInt, ofConst, ofConst1, loadA, TK.isAgg, asVar, unA, builtinA, lenOpA, lenA, ileb_cast, ileb_eq, ieqb_dec, indexAddrA, inB_dec, evPairs, storeA, AV.cellsOf, pairsOf, xI_nil, binBool, gcE, evOpt, xI_block, xI_loopH, xI_condM, xI_exitM, xI_skip, xI_blk, exitA, ty3, ty4, ty74, ty76, eK70_0_0]
  rfl

set_option maxHeartbeats 2000000 in
theorem w21 (w : Int) (l : List Int) (o : Int) (S : List (Int × Int)) (hn0 : l.length ≤ 9223372036854775807) (hS0 : S.length ≤ 9223372036854775807) : FnV TT 21 [.agg (lin w l o), .lst S.length (pairs S)] (.bool true) := by
  refine FnV.mk fn21 rfl md21 ?_ (fun _ => rfl) rfl
  rw [fi21]
  have hsz : ∀ σ : St, callI TT 30 [.agg (lin w l o), .int .i64 1048576] σ = some (.int .i64 (if l.length ≤ 1048576 then (1048576 : Int) - l.length else -1), σ) := fun σ => v30 w l o 1048576 hn0 (by decide) σ _ rfl
  by_cases hbig : l.length ≤ 1048576
  · obtain ⟨m, hm⟩ : ∃ m : Nat, (1048576 : Int) - l.length = m := ⟨1048576 - l.length, by omega⟩
    simp only [if_pos hbig, hm] at hsz
    have h1 : ¬ ((m : Int) < 0) := by omega
    have hsz2 : ∀ σ : St, callI TT 67 [.lst S.length (pairs S), .int .i64 m] σ = some (.int .i64 (if S.length ≤ m then (m : Int) - S.length else -1), σ) := fun σ => v67 S.length m (pairs S) hS0 (by omega) σ _ rfl
    by_cases hbig2 : S.length ≤ m
    · have hl : l.length < 3000000 := by omega
      have hn : l.length < 1000000000000 := by omega
      have hSl : S.length < 1000000000000 := by omega
      have hto : ∀ σ : St, callI TT 32 [.agg (lin w l o)] σ = some (.agg (lin w l o), σ) := fun σ => tol32 w l o hn σ _ rfl rfl
      have heq : ∀ σ : St, callI TT 34 [.agg (lin w l o), .agg (lin w l o)] σ = some (.bool true, σ) := fun σ => v34 w l o hn σ _ rfl
      have hts : ∀ σ : St, callI TT 69 [.lst S.length (pairs S)] σ = some (.lst S.length (pairs S), σ) := fun σ => v69 S (by omega) σ _ rfl rfl
      have hes : ∀ σ : St, callI TT 70 [.lst S.length (pairs S), .lst S.length (pairs S)] σ = some (.bool true, σ) := fun σ => v70 S (by omega) σ _ rfl
      have hS : ∀ σ : St, callI TT 71 [.agg (lin w l o), .lst S.length (pairs S)] σ = some (stV (stB w l o S), σ) := fun σ => v71 w l o S  hn hSl σ _ rfl
      have hI : ∀ σ : St, callI TT 64 [.agg (lin w l o), .lst S.length (pairs S)] σ = some (stV (stB w l o S), σ) := fun σ => v64 w l o S  hl hSl σ _ rfl
      have h3 : ¬ ((m : Int) - S.length < 0) := by omega
      have h4 : ¬ ((m : Int) < S.length) := by omega
      have h5 : ¬ (m < S.length) := by omega
      simp only [if_pos hbig2] at hsz2
      clear hm
      simp only [lin] at hsz hto heq hS hI ⊢
      generalize S.length = sl at *
      cases hr : stB w l o S with
      | none =>
        simp only [hr, stV, pdV] at hS hI
        simp [xI_seq, xI_region, xI_ret, regA, regOps, runOps, opStep, wantedA, opA, evo, evos, calleeA, lk, nif_eq, putE, paramsE, valS, val2, keepE, restrict, finA, resA, binA, binInt, ofConst, ofConst1, loadA, TK.isAgg, asVar, unA, builtinA, lenOpA, lenA, ileb_cast, ileb_eq, ieqb_dec, indexAddrA, inB_dec, evPairs, storeA, AV.cellsOf, pairsOf, xI_nil, binBool, gcE, evOpt, xI_block, xI_loopH, xI_condM, xI_exitM, xI_skip, xI_blk, exitA, ty2, ty3, ty4, ty38, ty41, cellsAt, getCells, takeN, dropN, fieldAddrA, allOne, AV.one, n_push, storeCellsA, putN, overN, ty2, ty33, ty38, ty41, St.push, St.get, St.set, hget, hset, runTr, pairsOk, pairOk, lstAt, lastOf, sameVal, AV.eqv, eqvs, eqvs_ints, regOps, blt_dec, cond_true, cond_false, hsz, hsz2, hto, heq, hts, hes, hS, hI, h1, h3, h4, h5]
      | some r =>
        obtain ⟨r1, r2⟩ := r
        simp only [hr, stV, pdV] at hS hI
        simp [xI_seq, xI_region, xI_ret, regA, regOps, runOps, opStep, wantedA, opA, evo, evos, calleeA, lk, nif_eq, putE, paramsE, valS, val2, keepE, restrict, finA, resA, binA, binInt, ofConst, ofConst1, loadA, TK.isAgg, asVar, unA, builtinA, lenOpA, lenA, ileb_cast, ileb_eq, ieqb_dec, indexAddrA, inB_dec, evPairs, storeA, AV.cellsOf, pairsOf, xI_nil, binBool, gcE, evOpt, xI_block, xI_loopH, xI_condM, xI_exitM, xI_skip, xI_blk, exitA, ty2, ty3, ty4, ty38, ty41, cellsAt, getCells, takeN, dropN, fieldAddrA, allOne, AV.one, n_push, storeCellsA, putN, overN, ty2, ty33, ty38, ty41, St.push, St.get, St.set, hget, hset, runTr, pairsOk, pairOk, lstAt, lastOf, sameVal, AV.eqv, eqvs, eqvs_ints, regOps, blt_dec, cond_true, cond_false, hsz, hsz2, hto, heq, hts, hes, hS, hI, h1, h3, h4, h5]
    · simp only [if_neg hbig2] at hsz2
      clear hm
      simp only [lin] at hsz ⊢
      generalize S.length = sl at *
      simp [xI_seq, xI_region, xI_ret, regA, regOps, runOps, opStep, wantedA, opA, evo, evos, calleeA, lk, nif_eq, putE, paramsE, valS, val2, keepE, restrict, finA, resA, binA, binInt, ofConst, ofConst1, loadA, TK.isAgg, asVar, unA, builtinA, lenOpA, lenA, ileb_cast, ileb_eq, ieqb_dec, indexAddrA, inB_dec, evPairs, storeA, AV.cellsOf, pairsOf, xI_nil, binBool, gcE, evOpt, xI_block, xI_loopH, xI_condM, xI_exitM, xI_skip, xI_blk, exitA, ty2, ty3, ty4, ty38, ty41, cellsAt, getCells, takeN, dropN, fieldAddrA, allOne, AV.one, n_push, storeCellsA, putN, overN, ty2, ty33, ty38, ty41, St.push, St.get, St.set, hget, hset, runTr, pairsOk, pairOk, lstAt, lastOf, sameVal, AV.eqv, eqvs, eqvs_ints, regOps, blt_dec, cond_true, cond_false, hsz, hsz2, h1]
  · simp only [if_neg hbig] at hsz
    simp only [lin] at hsz ⊢
    simp [xI_seq, xI_region, xI_ret, regA, regOps, runOps, opStep, wantedA, opA, evo, evos, calleeA, lk, nif_eq, putE, paramsE, valS, val2, keepE, restrict, finA, resA, binA, binInt, ofConst, ofConst1, loadA, TK.isAgg, asVar, unA, builtinA, lenOpA, lenA, ileb_cast, ileb_eq, ieqb_dec, indexAddrA, inB_dec, evPairs, storeA, AV.cellsOf, pairsOf, xI_nil, binBool, gcE, evOpt, xI_block, xI_loopH, xI_condM, xI_exitM, xI_skip, xI_blk, exitA, ty2, ty3, ty4, ty38, ty41, cellsAt, getCells, takeN, dropN, fieldAddrA, allOne, AV.one, n_push, storeCellsA, putN, overN, ty2, ty33, ty38, ty41, St.push, St.get, St.set, hget, hset, runTr, pairsOk, pairOk, lstAt, lastOf, sameVal, AV.eqv, eqvs, eqvs_ints, regOps, blt_dec, cond_true, cond_false, hsz]

set_option maxHeartbeats 2000000 in
theorem w20 (w : Int) (l : List Int) (o : Int) (S : List (Int × Int)) (at_ : Int) (hn0 : l.length ≤ 9223372036854775807) (hS0 : S.length ≤ 9223372036854775807) : FnV TT 20 [.agg (lin w l o), .lst S.length (pairs S), .int .i64 at_] (.bool true) := by
  refine FnV.mk fn20 rfl md20 ?_ (fun _ => rfl) rfl
  rw [fi20]
  have hsz : ∀ σ : St, callI TT 30 [.agg (lin w l o), .int .i64 1048576] σ = some (.int .i64 (if l.length ≤ 1048576 then (1048576 : Int) - l.length else -1), σ) := fun σ => v30 w l o 1048576 hn0 (by decide) σ _ rfl
  by_cases hbig : l.length ≤ 1048576
  · obtain ⟨m, hm⟩ : ∃ m : Nat, (1048576 : Int) - l.length = m := ⟨1048576 - l.length, by omega⟩
    simp only [if_pos hbig, hm] at hsz
    have h1 : ¬ ((m : Int) < 0) := by omega
    have hsz2 : ∀ σ : St, callI TT 67 [.lst S.length (pairs S), .int .i64 m] σ = some (.int .i64 (if S.length ≤ m then (m : Int) - S.length else -1), σ) := fun σ => v67 S.length m (pairs S) hS0 (by omega) σ _ rfl
    by_cases hbig2 : S.length ≤ m
    · have hl : l.length < 3000000 := by omega
      have hn : l.length < 1000000000000 := by omega
      have hSl : S.length < 1000000000000 := by omega
      have hto : ∀ σ : St, callI TT 32 [.agg (lin w l o)] σ = some (.agg (lin w l o), σ) := fun σ => tol32 w l o hn σ _ rfl rfl
      have heq : ∀ σ : St, callI TT 34 [.agg (lin w l o), .agg (lin w l o)] σ = some (.bool true, σ) := fun σ => v34 w l o hn σ _ rfl
      have hts : ∀ σ : St, callI TT 69 [.lst S.length (pairs S)] σ = some (.lst S.length (pairs S), σ) := fun σ => v69 S (by omega) σ _ rfl rfl
      have hes : ∀ σ : St, callI TT 70 [.lst S.length (pairs S), .lst S.length (pairs S)] σ = some (.bool true, σ) := fun σ => v70 S (by omega) σ _ rfl
      have hS : ∀ σ : St, callI TT 68 [.agg (lin w l o), .lst S.length (pairs S), .int .i64 at_] σ = some (pdV (pdB w l o S at_), σ) := fun σ => v68 w l o S at_ hn hSl σ _ rfl
      have hI : ∀ σ : St, callI TT 65 [.agg (lin w l o), .lst S.length (pairs S), .int .i64 at_] σ = some (pdV (pdB w l o S at_), σ) := fun σ => v65 w l o S at_ hl hSl σ _ rfl
      have h3 : ¬ ((m : Int) - S.length < 0) := by omega
      have h4 : ¬ ((m : Int) < S.length) := by omega
      have h5 : ¬ (m < S.length) := by omega
      simp only [if_pos hbig2] at hsz2
      clear hm
      simp only [lin] at hsz hto heq hS hI ⊢
      generalize S.length = sl at *
      cases hr : pdB w l o S at_ with
      | none =>
        simp only [hr, stV, pdV] at hS hI
        simp [xI_seq, xI_region, xI_ret, regA, regOps, runOps, opStep, wantedA, opA, evo, evos, calleeA, lk, nif_eq, putE, paramsE, valS, val2, keepE, restrict, finA, resA, binA, binInt, ofConst, ofConst1, loadA, TK.isAgg, asVar, unA, builtinA, lenOpA, lenA, ileb_cast, ileb_eq, ieqb_dec, indexAddrA, inB_dec, evPairs, storeA, AV.cellsOf, pairsOf, xI_nil, binBool, gcE, evOpt, xI_block, xI_loopH, xI_condM, xI_exitM, xI_skip, xI_blk, exitA, ty2, ty3, ty4, ty38, ty41, cellsAt, getCells, takeN, dropN, fieldAddrA, allOne, AV.one, n_push, storeCellsA, putN, overN, ty2, ty33, ty38, ty41, St.push, St.get, St.set, hget, hset, runTr, pairsOk, pairOk, lstAt, lastOf, sameVal, AV.eqv, eqvs, eqvs_ints, regOps, blt_dec, cond_true, cond_false, hsz, hsz2, hto, heq, hts, hes, hS, hI, h1, h3, h4, h5]
      | some r =>
        skip
        simp only [hr, stV, pdV] at hS hI
        simp [xI_seq, xI_region, xI_ret, regA, regOps, runOps, opStep, wantedA, opA, evo, evos, calleeA, lk, nif_eq, putE, paramsE, valS, val2, keepE, restrict, finA, resA, binA, binInt, ofConst, ofConst1, loadA, TK.isAgg, asVar, unA, builtinA, lenOpA, lenA, ileb_cast, ileb_eq, ieqb_dec, indexAddrA, inB_dec, evPairs, storeA, AV.cellsOf, pairsOf, xI_nil, binBool, gcE, evOpt, xI_block, xI_loopH, xI_condM, xI_exitM, xI_skip, xI_blk, exitA, ty2, ty3, ty4, ty38, ty41, cellsAt, getCells, takeN, dropN, fieldAddrA, allOne, AV.one, n_push, storeCellsA, putN, overN, ty2, ty33, ty38, ty41, St.push, St.get, St.set, hget, hset, runTr, pairsOk, pairOk, lstAt, lastOf, sameVal, AV.eqv, eqvs, eqvs_ints, regOps, blt_dec, cond_true, cond_false, hsz, hsz2, hto, heq, hts, hes, hS, hI, h1, h3, h4, h5]
    · simp only [if_neg hbig2] at hsz2
      clear hm
      simp only [lin] at hsz ⊢
      generalize S.length = sl at *
      simp [xI_seq, xI_region, xI_ret, regA, regOps, runOps, opStep, wantedA, opA, evo, evos, calleeA, lk, nif_eq, putE, paramsE, valS, val2, keepE, restrict, finA, resA, binA, binInt, ofConst, ofConst1, loadA, TK.isAgg, asVar, unA, builtinA, lenOpA, lenA, ileb_cast, ileb_eq, ieqb_dec, indexAddrA, inB_dec, evPairs, storeA, AV.cellsOf, pairsOf, xI_nil, binBool, gcE, evOpt, xI_block, xI_loopH, xI_condM, xI_exitM, xI_skip, xI_blk, exitA, ty2, ty3, ty4, ty38, ty41, cellsAt, getCells, takeN, dropN, fieldAddrA, allOne, AV.one, n_push, storeCellsA, putN, overN, ty2, ty33, ty38, ty41, St.push, St.get, St.set, hget, hset, runTr, pairsOk, pairOk, lstAt, lastOf, sameVal, AV.eqv, eqvs, eqvs_ints, regOps, blt_dec, cond_true, cond_false, hsz, hsz2, h1]
  · simp only [if_neg hbig] at hsz
    simp only [lin] at hsz ⊢
    simp [xI_seq, xI_region, xI_ret, regA, regOps, runOps, opStep, wantedA, opA, evo, evos, calleeA, lk, nif_eq, putE, paramsE, valS, val2, keepE, restrict, finA, resA, binA, binInt, ofConst, ofConst1, loadA, TK.isAgg, asVar, unA, builtinA, lenOpA, lenA, ileb_cast, ileb_eq, ieqb_dec, indexAddrA, inB_dec, evPairs, storeA, AV.cellsOf, pairsOf, xI_nil, binBool, gcE, evOpt, xI_block, xI_loopH, xI_condM, xI_exitM, xI_skip, xI_blk, exitA, ty2, ty3, ty4, ty38, ty41, cellsAt, getCells, takeN, dropN, fieldAddrA, allOne, AV.one, n_push, storeCellsA, putN, overN, ty2, ty33, ty38, ty41, St.push, St.get, St.set, hget, hset, runTr, pairsOk, pairOk, lstAt, lastOf, sameVal, AV.eqv, eqvs, eqvs_ints, regOps, blt_dec, cond_true, cond_false, hsz]

end Go.Proofs.Ytonnbgjbohbibaa
