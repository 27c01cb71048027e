/- Contracts and law: whether numbers are an order. Nothing is claimed here; no condition. -/
import Derived.Test.YtaniaeefijgaiaaCy
import Derived.Test.YtaniaeefijgaiaaCe
namespace Go.Proofs.Ytaniaeefijgaiaa
open Go Go.Abs
set_option linter.unusedSimpArgs false
set_option linter.unusedVariables false
/-- Whether numbers are an order of as many things. -/
def isO (l : List Int) : Bool := inR l.length 1 12 && (allR l 0 ((l.length : Int) - 1) && decide l.Nodup)
def chk (hi : Int) : List Int → List Int → Bool
  | _, [] => true
  | pre, x :: s => (inR x 0 hi && !decide (x ∈ pre)) && chk hi (pre ++ [x]) s
theorem chk_eq (hi : Int) : ∀ (s pre : List Int), pre.Nodup → chk hi pre s = (allR s 0 hi && decide (pre ++ s).Nodup)
  | [], pre, h => by simp [chk, allR, h]
  | x :: s, pre, h => by
    rw [chk]
    by_cases hx : x ∈ pre
    · have : ¬ (pre ++ x :: s).Nodup := fun hn => by
        have := (List.nodup_append.1 hn).2.2 x hx x (by simp)
        exact this rfl
      simp [hx, this]
    · have hp : (pre ++ [x]).Nodup := List.nodup_append.2 ⟨h, by simp, fun a ha b hb => by simp at hb; subst hb; exact fun e => hx (e ▸ ha)⟩
      rw [chk_eq hi s (pre ++ [x]) hp]
      simp [hx, allR, Bool.and_assoc]
theorem swp_perm {l : List Int} {i j : Nat} (hi : i < l.length) (hj : j < l.length) : (swp l i j).Perm l := by
  have h := List.set_set_perm hi hj
  unfold swp
  rw [List.getD_eq_getElem?_getD, List.getD_eq_getElem?_getD, List.getElem?_eq_getElem hi, List.getElem?_eq_getElem hj]
  exact h
theorem bub_perm : ∀ (j : Nat) (l : List Int), j < l.length → (bub j l).Perm l
  | 0, _, _ => List.Perm.refl _
  | j + 1, l, h => by
    simp only [bub]
    split
    · exact (bub_perm j _ (by rw [swp_length]; omega)).trans (swp_perm h (by omega))
    · exact List.Perm.refl _
theorem isrt_perm : ∀ (m i : Nat) (l : List Int), i + m ≤ l.length → (isrt m i l).Perm l
  | 0, _, _, _ => List.Perm.refl _
  | m + 1, i, l, h => by
    rw [isrt]
    exact (isrt_perm m (i + 1) _ (by rw [bub_length]; omega)).trans (bub_perm i l (by omega))
def chain : Int → List Int → Bool
  | _, [] => true
  | y, x :: r => decide (y < x) && chain x r
theorem chain_iff : ∀ (r : List Int) (y : Int), chain y r = true ↔ (y :: r).Pairwise (· < ·)
  | [], y => by simp [chain]
  | x :: r, y => by
    have ih := chain_iff r x
    rw [chain, Bool.and_eq_true, decide_eq_true_eq, ih]
    constructor
    · rintro ⟨h1, h2⟩
      refine List.pairwise_cons.2 ⟨fun c hc => ?_, h2⟩
      rcases List.mem_cons.1 hc with rfl | hc
      · exact h1
      · have := (List.pairwise_cons.1 h2).1 c hc; omega
    · intro h
      have h' := List.pairwise_cons.1 h
      exact ⟨h'.1 x (by simp), h'.2⟩
theorem fold_rises : ∀ (l s : List Int), s.Pairwise (· < ·) → (l.foldl (fun s x => put x s) s).Pairwise (· < ·)
  | [], _, h => h
  | x :: l, s, h => fold_rises l (put x s) (put_rises s h)
def incS : List Int → Bool
  | [] => true
  | y :: r => chain y r
theorem incS_iff {s : List Int} : incS s = true ↔ s.Pairwise (· < ·) := by
  cases s with
  | nil => simp [incS]
  | cons y r => exact chain_iff r y
/-- What is sorted rises just where nothing is repeated. -/
theorem sorted_nodup (l : List Int) (h : 1 ≤ l.length) : incS (isrt (l.length - 1) 1 l) = decide l.Nodup := by
  rw [Bool.eq_iff_iff, incS_iff, decide_eq_true_eq]
  constructor
  · intro hp
    have hn : (isrt (l.length - 1) 1 l).Nodup := hp.imp fun h => by omega
    exact (isrt_perm _ _ _ (by omega)).nodup hn
  · intro hn
    rw [sort_put l hn]
    exact fold_rises l [] List.Pairwise.nil

noncomputable def b86 : Code := Try.f86.body.getD .skip
noncomputable def B86_0 : Code := (bodyC (bodyC (sndC (fstC (sndC b86)))))
noncomputable def K86_0 : List It := .lp B86_0 :: .blk 0 :: .code (sndC (sndC b86)) :: []
theorem xl86_0 {fi : FI} {env : Env} {σ : St} : exI TT fi K86_0 env σ = exI TT fi (.code B86_0 :: K86_0) env σ := by unfold K86_0; exact xI_lp
noncomputable def R86_0_0 : List It := .code (sndC (sndC b86)) :: []
theorem eK86_0_0 : exitA 0 K86_0 = some R86_0_0 := rfl
theorem l86 (s : List Int) (len : Nat) (hlen : len = s.length) (hs : len < 3000000) (σ : St) : ∀ (suf pre : List Int) (y : Int), s = pre ++ y :: suf →
    exI TT (FI.of Try.f86 (TT.an 86)) K86_0 [(0, .lst len (ints s)), (3, .int .i64 (pre.length + 1 : Nat))] σ = some (.bool (chain y suf), σ) := by
  intro suf
  induction suf with
  | nil =>
    intro pre y hp
    have hll : len = pre.length + 1 := by rw [hlen, hp]; simp
    subst hll
    simp only [Int.natCast_add, show ((1 : Nat) : Int) = 1 from rfl]
    rw [fi86]
    rw [xl86_0]
    simp only [B86_0, b86, Try.f86, Option.getD, fstC, sndC, bodyC, thnC, elsC]
    simp [xI_seq, xI_region, xI_ret, regA, regOps, runOps, opStep, wantedA, opA, evo, evos, calleeA, lk, nif_eq, putE, paramsE, valS, val2, keepE, restrict, finA, resA, binA, binInt, ofConst, ofConst1, loadA, TK.isAgg, asVar, unA, builtinA, lenOpA, lenA, ileb_cast, ileb_eq, ieqb_dec, indexAddrA, inB_dec, evPairs, storeA, AV.cellsOf, pairsOf, xI_nil, binBool, gcE, evOpt, xI_block, xI_loopH, xI_condM, xI_exitM, xI_skip, xI_blk, exitA, ty2, ty3, ty22, eK86_0_0, chain]
    simp only [R86_0_0, b86, Try.f86, Option.getD, fstC, sndC, bodyC, thnC, elsC]
    simp [xI_seq, xI_region, xI_ret, regA, regOps, runOps, opStep, wantedA, opA, evo, evos, calleeA, lk, nif_eq, putE, paramsE, valS, val2, keepE, restrict, finA, resA, binA, binInt, ofConst, ofConst1, loadA, TK.isAgg, asVar, unA, builtinA, lenOpA, lenA, ileb_cast, ileb_eq, ieqb_dec, indexAddrA, inB_dec, evPairs, storeA, AV.cellsOf, pairsOf, xI_nil, binBool, gcE, evOpt, xI_block, xI_loopH, xI_condM, xI_exitM, xI_skip, xI_blk, exitA, ty2, ty3, ty22, eK86_0_0, chain]
  | cons x suf ih =>
    intro pre y hp
    have hll : len = pre.length + 1 + (suf.length + 1) := by rw [hlen, hp]; simp; omega
    have hg1 : s[pre.length]? = some y := by simp [hp]
    have hg2 : s[pre.length + 1]? = some x := by rw [hp, List.getElem?_append_right (by omega)]; simp
    have hlt : ¬ len ≤ pre.length + 1 := by omega
    have hlt' : ¬ (len : Int) ≤ (pre.length : Int) + 1 := by omega
    have hlt2 : pre.length + 1 < len := by omega
    have hlt3 : pre.length < len := by omega
    have hz : (0 : Int) ≤ (pre.length : Int) + 1 := by omega
    have hz2 : (pre.length : Int) + 1 < (len : Int) := by omega
    have hw : wrapA .i64 ((pre.length : Int) + 1 - 1) = (pre.length : Int) := by rw [show (pre.length : Int) + 1 - 1 = (pre.length : Int) by omega]; exact wrapA_id (by omega) (by omega)
    have hw0 : wrapA .i64 (pre.length : Int) = (pre.length : Int) := wrapA_id (by omega) (by omega)
    have hw2 : wrapA .i64 ((pre.length : Int) + 1 + 1) = (pre.length : Int) + 1 + 1 := wrapA_id (by omega) (by omega)
    have hn2 : ((pre.length : Int) + 1).toNat = pre.length + 1 := by omega
    have h1 := ih (pre ++ [y]) x (by simp [hp])
    simp only [List.length_append, List.length_singleton, Int.natCast_add, show ((1 : Nat) : Int) = 1 from rfl] at h1
    simp only [Int.natCast_add, show ((1 : Nat) : Int) = 1 from rfl]
    have k1 : cellsAt σ (.lp (ints s) pre.length) 1 = some [.int .i64 y] := lst_read hg1
    have k2 : cellsAt σ (.lp (ints s) (pre.length + 1)) 1 = some [.int .i64 x] := lst_read hg2
    have hin : inB ((pre.length : Int) + 1) len = true := by rw [inB_dec]; simp; omega
    by_cases hlt4 : y < x
    · have hge : ¬ x ≤ y := by omega
      rw [show chain y (x :: suf) = chain x suf by simp [chain, hlt4]]
      rw [fi86] at h1 ⊢
      rw [xl86_0]
      simp only [B86_0, b86, Try.f86, Option.getD, fstC, sndC, bodyC, thnC, elsC]
      simp [xI_seq, xI_region, xI_ret, regA, regOps, runOps, opStep, wantedA, opA, evo, evos, calleeA, lk, nif_eq, putE, paramsE, valS, val2, keepE, restrict, finA, resA, binA, binInt, ofConst, ofConst1, loadA, TK.isAgg, asVar, unA, builtinA, lenOpA, lenA, ileb_cast, ileb_eq, ieqb_dec, indexAddrA, inB_dec, evPairs, storeA, AV.cellsOf, pairsOf, xI_nil, binBool, gcE, evOpt, xI_block, xI_loopH, xI_condM, xI_exitM, xI_skip, xI_blk, exitA, ty2, ty3, ty22, eK86_0_0, runTr, pairsOk, pairOk, lstAt, lastOf, sameVal, AV.eqv, eqvs, regOps, cond_true, cond_false, hlt, hlt', hlt2, hlt3, hz, hz2, hw, hw0, hw2, hn2, k1, k2, hlt4, hge, hin]
      simpa using h1
    · have hge : x ≤ y := by omega
      rw [show chain y (x :: suf) = false by simp [chain, hlt4]]
      rw [fi86]
      rw [xl86_0]
      simp only [B86_0, b86, Try.f86, Option.getD, fstC, sndC, bodyC, thnC, elsC]
      simp [xI_seq, xI_region, xI_ret, regA, regOps, runOps, opStep, wantedA, opA, evo, evos, calleeA, lk, nif_eq, putE, paramsE, valS, val2, keepE, restrict, finA, resA, binA, binInt, ofConst, ofConst1, loadA, TK.isAgg, asVar, unA, builtinA, lenOpA, lenA, ileb_cast, ileb_eq, ieqb_dec, indexAddrA, inB_dec, evPairs, storeA, AV.cellsOf, pairsOf, xI_nil, binBool, gcE, evOpt, xI_block, xI_loopH, xI_condM, xI_exitM, xI_skip, xI_blk, exitA, ty2, ty3, ty22, eK86_0_0, runTr, pairsOk, pairOk, lstAt, lastOf, sameVal, AV.eqv, eqvs, regOps, cond_true, cond_false, hlt, hlt', hlt2, hlt3, hz, hz2, hw, hw0, hw2, hn2, k1, k2, hlt4, hge, hin]
theorem v86 (s : List Int) (len : Nat) (hlen : len = s.length) (h1 : 1 ≤ len) (hs : len < 3000000) : FnV TT 86 [.lst len (ints s)] (.bool (incS s)) := by
  cases s with
  | nil => simp at hlen; omega
  | cons y r =>
    have h := l86 (y :: r) len hlen hs ⟨[], 0⟩ r [] y rfl
    simp only [List.length_nil, Nat.zero_add, show ((1 : Nat) : Int) = 1 from rfl] at h
    refine FnV.mk fn86 rfl md86 ⟨⟨[], 0⟩, ?_⟩ (fun _ => rfl) rfl
    rw [show incS (y :: r) = chain y r from rfl, ← h, fi86]
    simp [xI_seq, xI_region, xI_ret, regA, regOps, runOps, opStep, wantedA, opA, evo, evos, calleeA, lk, nif_eq, putE, paramsE, valS, val2, keepE, restrict, finA, resA, binA, binInt, ofConst, ofConst1, loadA, TK.isAgg, asVar, unA, builtinA, lenOpA, lenA, ileb_cast, ileb_eq, ieqb_dec, indexAddrA, inB_dec, evPairs, storeA, AV.cellsOf, pairsOf, xI_nil, binBool, gcE, evOpt, xI_block, xI_loopH, xI_condM, xI_exitM, xI_skip, xI_blk, exitA, ty2, ty3, ty22, eK86_0_0]
    rfl

noncomputable def b87 : Code := Try.f87.body.getD .skip
noncomputable def B87_0 : Code := (bodyC (bodyC (sndC (fstC (sndC (sndC b87))))))
noncomputable def K87_0 : List It := .lp B87_0 :: .blk 0 :: .code (sndC (sndC (sndC b87))) :: []
theorem xl87_0 {fi : FI} {env : Env} {σ : St} : exI TT fi K87_0 env σ = exI TT fi (.code B87_0 :: K87_0) env σ := by unfold K87_0; exact xI_lp
noncomputable def R87_0_0 : List It := .code (sndC (sndC (sndC b87))) :: []
theorem eK87_0_0 : exitA 0 K87_0 = some R87_0_0 := rfl
theorem l87 (l : List Int) (len : Nat) (hlen : len = l.length) (hs : len < 3000000) (σ : St) : ∀ (suf pre : List Int), l = pre ++ suf →
    exI TT (FI.of Try.f87 (TT.an 87)) K87_0 [(0, .lst len (ints l)), (3, .int .i64 len), (4, .int .i64 pre.length)] σ = some (.bool (chk ((len : Int) - 1) pre suf && inR len 1 12), σ) := by
  intro suf
  induction suf with
  | nil =>
    intro pre hp
    have hll : len = pre.length := by rw [hlen, hp]; simp
    subst hll
    rw [fi87]
    rw [xl87_0]
    simp only [B87_0, b87, Try.f87, Option.getD, fstC, sndC, bodyC, thnC, elsC]
    simp [xI_seq, xI_region, xI_ret, regA, regOps, runOps, opStep, wantedA, opA, evo, evos, calleeA, lk, nif_eq, putE, paramsE, valS, val2, keepE, restrict, finA, resA, binA, binInt, ofConst, ofConst1, loadA, TK.isAgg, asVar, unA, builtinA, lenOpA, lenA, ileb_cast, ileb_eq, ieqb_dec, indexAddrA, inB_dec, evPairs, storeA, AV.cellsOf, pairsOf, xI_nil, binBool, gcE, evOpt, xI_block, xI_loopH, xI_condM, xI_exitM, xI_skip, xI_blk, exitA, ty2, ty3, ty4, ty22, eK87_0_0]
    simp only [R87_0_0, b87, Try.f87, Option.getD, fstC, sndC, bodyC, thnC, elsC]
    by_cases h1 : 1 ≤ pre.length
    · have h1' : (1 : Int) ≤ (pre.length : Int) := by omega
      by_cases h2 : pre.length ≤ 12
      · have h2' : (pre.length : Int) ≤ 12 := by omega
        simp [xI_seq, xI_region, xI_ret, regA, regOps, runOps, opStep, wantedA, opA, evo, evos, calleeA, lk, nif_eq, putE, paramsE, valS, val2, keepE, restrict, finA, resA, binA, binInt, ofConst, ofConst1, loadA, TK.isAgg, asVar, unA, builtinA, lenOpA, lenA, ileb_cast, ileb_eq, ieqb_dec, indexAddrA, inB_dec, evPairs, storeA, AV.cellsOf, pairsOf, xI_nil, binBool, gcE, evOpt, xI_block, xI_loopH, xI_condM, xI_exitM, xI_skip, xI_blk, exitA, ty2, ty3, ty4, ty22, eK87_0_0, h1, h1', h2, h2', chk, inR]
      · have h2' : ¬ (pre.length : Int) ≤ 12 := by omega
        simp [xI_seq, xI_region, xI_ret, regA, regOps, runOps, opStep, wantedA, opA, evo, evos, calleeA, lk, nif_eq, putE, paramsE, valS, val2, keepE, restrict, finA, resA, binA, binInt, ofConst, ofConst1, loadA, TK.isAgg, asVar, unA, builtinA, lenOpA, lenA, ileb_cast, ileb_eq, ieqb_dec, indexAddrA, inB_dec, evPairs, storeA, AV.cellsOf, pairsOf, xI_nil, binBool, gcE, evOpt, xI_block, xI_loopH, xI_condM, xI_exitM, xI_skip, xI_blk, exitA, ty2, ty3, ty4, ty22, eK87_0_0, h1, h1', h2, h2', chk, inR]
    · have h1' : ¬ (1 : Int) ≤ (pre.length : Int) := by omega
      simp [xI_seq, xI_region, xI_ret, regA, regOps, runOps, opStep, wantedA, opA, evo, evos, calleeA, lk, nif_eq, putE, paramsE, valS, val2, keepE, restrict, finA, resA, binA, binInt, ofConst, ofConst1, loadA, TK.isAgg, asVar, unA, builtinA, lenOpA, lenA, ileb_cast, ileb_eq, ieqb_dec, indexAddrA, inB_dec, evPairs, storeA, AV.cellsOf, pairsOf, xI_nil, binBool, gcE, evOpt, xI_block, xI_loopH, xI_condM, xI_exitM, xI_skip, xI_blk, exitA, ty2, ty3, ty4, ty22, eK87_0_0, h1, h1', chk, inR]
  | cons x suf ih =>
    intro pre hp
    have hll : len = pre.length + (suf.length + 1) := by rw [hlen, hp]; simp
    have hg : l[pre.length]? = some x := by simp [hp]
    have hlt : ¬ len ≤ pre.length := by omega
    have hlt' : ¬ (len : Int) ≤ (pre.length : Int) := by omega
    have hlt2 : pre.length < len := by omega
    have hle2 : pre.length ≤ len := by omega
    have hle3 : (pre.length : Int) ≤ (len : Int) := by omega
    have hw := wrapS (n := pre.length) (by omega)
    have hw1 : wrapA .i64 ((len : Int) - 1) = (len : Int) - 1 := wrapA_id (by omega) (by omega)
    have hi := c66 x 0 ((len : Int) - 1) σ
    have hh := v90 pre pre.length rfl (by omega) x σ [.lst pre.length (ints pre), .int .i64 x] rfl
    have hpre : getCells (ints l) 0 pre.length = some (ints pre) := by
      rw [getCells_eq, if_pos (by rw [ints_length]; omega), List.drop_zero, hp]
      simp [ints]
    have hrd := lst_read (σ := σ) hg
    have h1 := ih (pre ++ [x]) (by simp [hp])
    simp only [List.length_append, List.length_singleton] at h1
    rw [chk]
    cases hx : inR x 0 ((len : Int) - 1) with
    | false =>
      rw [hx] at hi
      rw [fi87]
      rw [xl87_0]
      simp only [B87_0, b87, Try.f87, Option.getD, fstC, sndC, bodyC, thnC, elsC]
      simp [xI_seq, xI_region, xI_ret, regA, regOps, runOps, opStep, wantedA, opA, evo, evos, calleeA, lk, nif_eq, putE, paramsE, valS, val2, keepE, restrict, finA, resA, binA, binInt, ofConst, ofConst1, loadA, TK.isAgg, asVar, unA, builtinA, lenOpA, lenA, ileb_cast, ileb_eq, ieqb_dec, indexAddrA, inB_dec, evPairs, storeA, AV.cellsOf, pairsOf, xI_nil, binBool, gcE, evOpt, xI_block, xI_loopH, xI_condM, xI_exitM, xI_skip, xI_blk, exitA, ty2, ty3, ty4, ty22, eK87_0_0, runTr, pairsOk, pairOk, lstAt, lastOf, sameVal, AV.eqv, eqvs, regOps, cond_true, cond_false, sliceA, boundA, hlt, hlt', hlt2, hle2, hle3, hw1, hi, hrd, hpre]
    | true =>
      rw [hx] at hi
      by_cases hm : x ∈ pre
      · rw [decide_eq_true hm] at hh
        rw [fi87]
        rw [xl87_0]
        simp only [B87_0, b87, Try.f87, Option.getD, fstC, sndC, bodyC, thnC, elsC]
        simp [xI_seq, xI_region, xI_ret, regA, regOps, runOps, opStep, wantedA, opA, evo, evos, calleeA, lk, nif_eq, putE, paramsE, valS, val2, keepE, restrict, finA, resA, binA, binInt, ofConst, ofConst1, loadA, TK.isAgg, asVar, unA, builtinA, lenOpA, lenA, ileb_cast, ileb_eq, ieqb_dec, indexAddrA, inB_dec, evPairs, storeA, AV.cellsOf, pairsOf, xI_nil, binBool, gcE, evOpt, xI_block, xI_loopH, xI_condM, xI_exitM, xI_skip, xI_blk, exitA, ty2, ty3, ty4, ty22, eK87_0_0, runTr, pairsOk, pairOk, lstAt, lastOf, sameVal, AV.eqv, eqvs, regOps, cond_true, cond_false, sliceA, boundA, hlt, hlt', hlt2, hle2, hle3, hw1, hi, hrd, hpre, hh, hm]
      · rw [decide_eq_false hm] at hh
        simp only [hm, decide_false, Bool.not_false, Bool.and_true, Bool.true_and]
        rw [fi87] at h1 ⊢
        rw [xl87_0]
        simp only [B87_0, b87, Try.f87, Option.getD, fstC, sndC, bodyC, thnC, elsC]
        simp [xI_seq, xI_region, xI_ret, regA, regOps, runOps, opStep, wantedA, opA, evo, evos, calleeA, lk, nif_eq, putE, paramsE, valS, val2, keepE, restrict, finA, resA, binA, binInt, ofConst, ofConst1, loadA, TK.isAgg, asVar, unA, builtinA, lenOpA, lenA, ileb_cast, ileb_eq, ieqb_dec, indexAddrA, inB_dec, evPairs, storeA, AV.cellsOf, pairsOf, xI_nil, binBool, gcE, evOpt, xI_block, xI_loopH, xI_condM, xI_exitM, xI_skip, xI_blk, exitA, ty2, ty3, ty4, ty22, eK87_0_0, runTr, pairsOk, pairOk, lstAt, lastOf, sameVal, AV.eqv, eqvs, regOps, cond_true, cond_false, sliceA, boundA, hlt, hlt', hlt2, hle2, hle3, hw, hw1, hi, hrd, hpre, hh]
        simpa using h1
theorem isO_chk (l : List Int) : (chk ((l.length : Int) - 1) [] l && inR l.length 1 12) = isO l := by
  rw [chk_eq _ l [] List.nodup_nil, List.nil_append, isO, Bool.and_comm]
theorem v87 (l : List Int) (len : Nat) (hlen : len = l.length) (hs : len < 3000000) : FnV TT 87 [.lst len (ints l)] (.bool (isO l)) := by
  have h := l87 l len hlen hs ⟨[], 0⟩ l [] rfl
  rw [hlen, isO_chk, ← hlen] at h
  simp only [List.length_nil, show ((0 : Nat) : Int) = 0 from rfl] at h
  refine FnV.mk fn87 rfl md87 ⟨⟨[], 0⟩, ?_⟩ (fun _ => rfl) rfl
  rw [← h, fi87]
  simp [xI_seq, xI_region, xI_ret, regA, regOps, runOps, opStep, wantedA, opA, evo, evos, calleeA, lk, nif_eq, putE, paramsE, valS, val2, keepE, restrict, finA, resA, binA, binInt, ofConst, ofConst1, loadA, TK.isAgg, asVar, unA, builtinA, lenOpA, lenA, ileb_cast, ileb_eq, ieqb_dec, indexAddrA, inB_dec, evPairs, storeA, AV.cellsOf, pairsOf, xI_nil, binBool, gcE, evOpt, xI_block, xI_loopH, xI_condM, xI_exitM, xI_skip, xI_blk, exitA, ty2, ty3, ty4, ty22, eK87_0_0]
  rfl

theorem v40 (l : List Int) (len : Nat) (hlen : len = l.length) (hs : len < 3000000) : FnV TT 40 [.lst len (ints l)] (.bool (isO l)) := by
  have h := fun σ => v87 l len hlen hs σ [.lst len (ints l)] rfl
  refine FnV.mk fn40 rfl md40 ⟨⟨[], 0⟩, ?_⟩ (fun _ => rfl) rfl
  rw [fi40]
  simp [xI_seq, xI_region, xI_ret, regA, regOps, runOps, opStep, wantedA, opA, evo, evos, calleeA, lk, nif_eq, putE, paramsE, valS, val2, keepE, restrict, finA, resA, binA, binInt, ofConst, ofConst1, loadA, TK.isAgg, asVar, unA, builtinA, lenOpA, lenA, ileb_cast, ileb_eq, ieqb_dec, indexAddrA, inB_dec, evPairs, storeA, AV.cellsOf, pairsOf, xI_nil, binBool, gcE, evOpt, xI_block, xI_loopH, xI_condM, xI_exitM, xI_skip, xI_blk, exitA, h]

theorem fnx112 : TT.fn 112 = none := by kernel_rfl
theorem cext (args : List AV) (σ : St) : callI TT 112 args σ = extF 112 args σ := by
  show callA TT (exI TT) 112 args σ = _
  unfold callA
  rw [fnx112]
  rfl
theorem c89 (n : Nat) (cs : List AV) (σ : St) : callI TT 89 [.lst n cs] σ = some (.fn 106 [] [.ptr σ.n 0], σ.push ⟨[.lst n cs], 1, false⟩) := by
  rw [cI_0 fn89 rfl md89, fi89]
  simp [xI_seq, xI_region, xI_ret, regA, regOps, runOps, opStep, wantedA, opA, evo, evos, calleeA, lk, nif_eq, putE, paramsE, valS, val2, keepE, restrict, finA, resA, binA, binInt, ofConst, ofConst1, loadA, TK.isAgg, asVar, unA, builtinA, lenOpA, lenA, ileb_cast, ileb_eq, ieqb_dec, indexAddrA, inB_dec, evPairs, storeA, AV.cellsOf, pairsOf, xI_nil, binBool, gcE, evOpt, xI_block, xI_loopH, xI_condM, xI_exitM, xI_skip, xI_blk, exitA, ty2, ty4, ty22, allOne, AV.one]
theorem c105 (l : List Int) (h1 : l ≠ []) (hl : l.length ≤ 1000000) (σ : St) (c : Nat) (hc : cellsAt σ (.ptr c 0) 1 = some [.lst l.length (ints l)]) : callI TT 105 [.fn 106 [] [.ptr c 0]] σ = some (.sl σ.n 0 l.length l.length, σ.push ⟨ints l, 1, true⟩) := by
  have he : callI TT 112 [.nilS, .fn 106 [] [.ptr c 0]] σ = some (.sl σ.n 0 l.length l.length, σ.push ⟨ints l, 1, true⟩) := by
    rw [cext]
    simp [extF, hc, listOf, unints_ints, hl, h1]
  rw [cI_0 fn105 rfl md105, fi105]
  simp [xI_seq, xI_region, xI_ret, regA, regOps, runOps, opStep, wantedA, opA, evo, evos, calleeA, lk, nif_eq, putE, paramsE, valS, val2, keepE, restrict, finA, resA, binA, binInt, ofConst, ofConst1, loadA, TK.isAgg, asVar, unA, builtinA, lenOpA, lenA, ileb_cast, ileb_eq, ieqb_dec, indexAddrA, inB_dec, evPairs, storeA, AV.cellsOf, pairsOf, xI_nil, binBool, gcE, evOpt, xI_block, xI_loopH, xI_condM, xI_exitM, xI_skip, xI_blk, exitA, he]
theorem c88 (l : List Int) (h1 : l ≠ []) (hl : l.length ≤ 12) (σ : St) (c : Nat) (hc : cellsAt σ (.ptr c 0) 1 = some [.lst l.length (ints l)]) : ∃ σ', callI TT 88 [.fn 106 [] [.ptr c 0]] σ = some (.sl σ.n 0 l.length l.length, σ') ∧ Row σ' σ.n (isrt (l.length - 1) 1 l) := by
  obtain ⟨σ', c2, r2, _⟩ := m93 (σ.push ⟨ints l, 1, true⟩) σ.n l.length l rfl hl Row.push
  have c1 := c105 l h1 (by omega) σ c hc
  refine ⟨σ', ?_, r2⟩
  rw [cI_0 fn88 rfl md88, fi88]
  simp [xI_seq, xI_region, xI_ret, regA, regOps, runOps, opStep, wantedA, opA, evo, evos, calleeA, lk, nif_eq, putE, paramsE, valS, val2, keepE, restrict, finA, resA, binA, binInt, ofConst, ofConst1, loadA, TK.isAgg, asVar, unA, builtinA, lenOpA, lenA, ileb_cast, ileb_eq, ieqb_dec, indexAddrA, inB_dec, evPairs, storeA, AV.cellsOf, pairsOf, xI_nil, binBool, gcE, evOpt, xI_block, xI_loopH, xI_condM, xI_exitM, xI_skip, xI_blk, exitA, c1, c2]
theorem v41 (l : List Int) (len : Nat) (hlen : len = l.length) (hs : len < 3000000) : FnV TT 41 [.lst len (ints l)] (.bool (isO l)) := by
  subst hlen
  have e1 := fun σ => v75 l l.length σ [.lst l.length (ints l)] rfl
  have e2 := fun σ => c69 l.length 1 12 σ
  have hw1 : wrapA .i64 ((l.length : Int) - 1) = (l.length : Int) - 1 := wrapA_id (by omega) (by omega)
  have e3 := fun σ => v78 l l.length rfl (by omega) 0 ((l.length : Int) - 1) σ [.lst l.length (ints l), .int .i64 0, .int .i64 ((l.length : Int) - 1)] rfl
  unfold isO
  cases h1 : inR l.length 1 12 with
  | false =>
    simp only [h1] at e2
    refine FnV.mk fn41 rfl md41 ⟨⟨[], 0⟩, ?_⟩ (fun _ => rfl) rfl
    rw [fi41]
    simp [xI_seq, xI_region, xI_ret, regA, regOps, runOps, opStep, wantedA, opA, evo, evos, calleeA, lk, nif_eq, putE, paramsE, valS, val2, keepE, restrict, finA, resA, binA, binInt, ofConst, ofConst1, loadA, TK.isAgg, asVar, unA, builtinA, lenOpA, lenA, ileb_cast, ileb_eq, ieqb_dec, indexAddrA, inB_dec, evPairs, storeA, AV.cellsOf, pairsOf, xI_nil, binBool, gcE, evOpt, xI_block, xI_loopH, xI_condM, xI_exitM, xI_skip, xI_blk, exitA, ty2, ty4, e1, e2]
  | true =>
    simp only [h1] at e2
    cases h2 : allR l 0 ((l.length : Int) - 1) with
    | false =>
      simp only [h2] at e3
      refine FnV.mk fn41 rfl md41 ⟨⟨[], 0⟩, ?_⟩ (fun _ => rfl) rfl
      rw [fi41]
      simp [xI_seq, xI_region, xI_ret, regA, regOps, runOps, opStep, wantedA, opA, evo, evos, calleeA, lk, nif_eq, putE, paramsE, valS, val2, keepE, restrict, finA, resA, binA, binInt, ofConst, ofConst1, loadA, TK.isAgg, asVar, unA, builtinA, lenOpA, lenA, ileb_cast, ileb_eq, ieqb_dec, indexAddrA, inB_dec, evPairs, storeA, AV.cellsOf, pairsOf, xI_nil, binBool, gcE, evOpt, xI_block, xI_loopH, xI_condM, xI_exitM, xI_skip, xI_blk, exitA, ty2, ty4, e1, e2, hw1, e3]
    | true =>
      simp only [h2] at e3
      have hr := inR_iff.1 h1
      have hne : l ≠ [] := fun e => by rw [e] at hr; simp at hr
      have c1 := c89 l.length (ints l) ⟨[], 0⟩
      obtain ⟨σ1, hσ⟩ : ∃ σ1, (⟨[], 0⟩ : St).push ⟨[.lst l.length (ints l)], 1, false⟩ = σ1 := ⟨_, rfl⟩
      have hc : cellsAt σ1 (.ptr 0 0) 1 = some [.lst l.length (ints l)] := by subst hσ; simp [cellsAt, St.get, St.push, hget, nif_eq, getCells, takeN, dropN]
      obtain ⟨σ2, c2, r2⟩ := c88 l hne (by omega) σ1 0 hc
      have c3 := v86 (isrt (l.length - 1) 1 l) l.length (by rw [isrt_length]) (by omega) (by omega) σ2 [.sl σ1.n 0 l.length l.length] (mapO_cons (r2.frz (by rw [isrt_length]) (Nat.le_refl _)) rfl)
      rw [sorted_nodup l (by omega)] at c3
      rw [hσ] at c1
      simp only [Bool.true_and]
      generalize decide l.Nodup = e at *
      refine FnV.mk fn41 rfl md41 ⟨σ2, ?_⟩ (fun _ => rfl) rfl
      rw [fi41]
      simp [xI_seq, xI_region, xI_ret, regA, regOps, runOps, opStep, wantedA, opA, evo, evos, calleeA, lk, nif_eq, putE, paramsE, valS, val2, keepE, restrict, finA, resA, binA, binInt, ofConst, ofConst1, loadA, TK.isAgg, asVar, unA, builtinA, lenOpA, lenA, ileb_cast, ileb_eq, ieqb_dec, indexAddrA, inB_dec, evPairs, storeA, AV.cellsOf, pairsOf, xI_nil, binBool, gcE, evOpt, xI_block, xI_loopH, xI_condM, xI_exitM, xI_skip, xI_blk, exitA, ty2, ty4, e1, e2, hw1, e3, c1, c2, c3]

set_option maxHeartbeats 2000000 in
theorem w11  (l : List Int) : FnV TT 11 [.lst l.length (ints l)] (.bool true) := by
  refine FnV.mk fn11 rfl md11 ?_ (fun _ => rfl) rfl
  rw [fi11]
  by_cases hbig : 1048576 < l.length
  · refine ⟨⟨[], 0⟩, ?_⟩
    have hbig' : ¬ (l.length : Int) ≤ 1048576 := by omega
    simp [xI_seq, xI_region, xI_ret, regA, regOps, runOps, opStep, wantedA, opA, evo, evos, calleeA, lk, nif_eq, putE, paramsE, valS, val2, keepE, restrict, finA, resA, binA, binInt, ofConst, ofConst1, loadA, TK.isAgg, asVar, unA, builtinA, lenOpA, lenA, ileb_cast, ileb_eq, ieqb_dec, indexAddrA, inB_dec, evPairs, storeA, AV.cellsOf, pairsOf, xI_nil, binBool, gcE, evOpt, xI_block, xI_loopH, xI_condM, xI_exitM, xI_skip, xI_blk, exitA, ty2, ty3, ty4, ty22, hbig, hbig']
  · have hl : l.length ≤ 1048576 := by omega
    have hbg : (l.length : Int) ≤ 1048576 := by omega
    have hS := v40 l l.length rfl (by omega)
    have hI := v41 l l.length rfl (by omega)
    obtain ⟨b1, σ1, c1, r1, o1, e1⟩ := FnS.row (s21 l l.length rfl (by omega)) (σ := (⟨[], 0⟩ : St)) (args := [.lst l.length (ints l)]) rfl
    have c2 := hS σ1 [.sl b1 0 l.length l.length] (mapO_cons (r1.frz rfl (Nat.le_refl _)) rfl)
    obtain ⟨b3, σ3, c3, r3, o3, e3⟩ := FnS.row (s21 l l.length rfl (by omega)) (σ := σ1) (args := [.lst l.length (ints l)]) rfl
    have c4 := hI σ3 [.sl b3 0 l.length l.length] (mapO_cons (r3.frz rfl (Nat.le_refl _)) rfl)
    obtain ⟨b5, σ5, c5, r5, o5, e5⟩ := FnS.row (s21 l l.length rfl (by omega)) (σ := σ3) (args := [.lst l.length (ints l)]) rfl
    replace r3 := r3.old o5
    have c6 := v23 l l l.length l.length rfl rfl (by omega) σ5 [.sl b3 0 l.length l.length, .sl b5 0 l.length l.length] (mapO_cons (r3.frz rfl (Nat.le_refl _)) (mapO_cons (r5.frz rfl (Nat.le_refl _)) rfl))
    simp only [decide_true] at c6
    clear hS hI
    refine ⟨σ5, ?_⟩
    simp [xI_seq, xI_region, xI_ret, regA, regOps, runOps, opStep, wantedA, opA, evo, evos, calleeA, lk, nif_eq, putE, paramsE, valS, val2, keepE, restrict, finA, resA, binA, binInt, ofConst, ofConst1, loadA, TK.isAgg, asVar, unA, builtinA, lenOpA, lenA, ileb_cast, ileb_eq, ieqb_dec, indexAddrA, inB_dec, evPairs, storeA, AV.cellsOf, pairsOf, xI_nil, binBool, gcE, evOpt, xI_block, xI_loopH, xI_condM, xI_exitM, xI_skip, xI_blk, exitA, ty2, ty3, ty4, ty22, hbg, c1, c2, c3, c4, c5, c6]

end Go.Proofs.Ytaniaeefijgaiaa
