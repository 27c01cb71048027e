/- Contracts: fair flips of pairs. Nothing is claimed here; no condition. -/
import Derived.Test.YthkdbkjkccogfaaDoorGh
namespace Go.Proofs.YthkdbkjkccogfaaDoor
open Go Go.Abs
set_option linter.unusedSimpArgs false
set_option linter.unusedVariables false
open Go.Wd
def FnF (T : Tab) (f : FuncId) (args' : List AV) (v : AV) : Prop := ∀ (σ : St) (args : List AV), mapO (frzV σ frzDepth) args = some args' → args.flatMap (rowsV σ frzDepth) = [] → callI T f args σ = some (v, σ)
theorem FnF.mk {T : Tab} {f : FuncId} {F : Func} {c : Code} {args' : List AV} {v : AV} (hF : T.fn f = some F) (hB : F.body = some c) (hm : (T.an f).mode = 1)
    (hx : ∃ σ1 v0, exI T (FI.of F (T.an f)) [.code c] (paramsE 0 args') ⟨[], 0⟩ = some (v0, σ1) ∧ frzV σ1 frzDepth v0 = some v) : FnF T f args' v := by
  intro σ args ha hr
  obtain ⟨σ1, v0, hx, hv⟩ := hx
  refine cI_1 hF hB hm ha hx ?_
  unfold frzR
  rw [hv, hr]
  simp only [St.dels]
  split <;> rfl
/-- Texts as cells. -/
def strs (L : List (List UInt8)) : List AV := L.map .str
theorem strs_length (L : List (List UInt8)) : (strs L).length = L.length := List.length_map ..
theorem strs_append (L : List (List UInt8)) (x : List UInt8) : strs (L ++ [x]) = strs L ++ [.str x] := by simp [strs]
theorem allOne_strs : ∀ L : List (List UInt8), allOne (strs L) = true
  | [] => rfl
  | _ :: r => by simp [strs, allOne, AV.one]; exact allOne_strs r
theorem getCells_strs {L : List (List UInt8)} {n : Nat} (h : n = L.length) : getCells (strs L) 0 n = some (strs L) := by
  subst h
  rw [getCells_eq, if_pos (by simp [strs_length]), List.drop_zero, List.take_of_length_le (by simp [strs_length])]
theorem strs_read {L : List (List UInt8)} {i : Nat} {x : List UInt8} {σ : St} (h : L[i]? = some x) : cellsAt σ (.lp (strs L) i) 1 = some [.str x] := by
  obtain ⟨hi, hx⟩ := List.getElem?_eq_some_iff.1 h
  show getCells (strs L) i 1 = _
  rw [getCells_eq, if_pos (by simp [strs_length]; omega)]
  simp only [strs, ← List.map_drop, ← List.map_take]
  rw [List.drop_eq_getElem_cons hi, hx]
  rfl
theorem frz_strs {σ : St} {d : Nat} : ∀ L : List (List UInt8), mapO (frzV σ (d + 1)) (strs L) = some (strs L)
  | [] => rfl
  | x :: r => mapO_cons rfl (frz_strs r)
def SRow (σ : St) (b : Nat) (L : List (List UInt8)) : Prop := ∃ o, σ.get b = some ⟨strs L, 1, o⟩ ∧ b < σ.n
theorem SRow.lt {σ : St} {b : Nat} {L : List (List UInt8)} (h : SRow σ b L) : b < σ.n := by obtain ⟨_, _, h⟩ := h; exact h
theorem SRow.keep {σ σ' : St} {b : Nat} {L : List (List UInt8)} (h : SRow σ b L) (hn : σ.n ≤ σ'.n) (he : σ'.get b = σ.get b) : SRow σ' b L := by
  obtain ⟨o, h, hlt⟩ := h; exact ⟨o, by rw [he]; exact h, by omega⟩
theorem SRow.frz {σ : St} {b : Nat} {L : List (List UInt8)} {d n : Nat} (h : SRow σ b L) (hn : n = L.length) : frzV σ (d + 2) (.sl b 0 n n) = some (.lst n (strs L)) := by
  obtain ⟨o, hg, _⟩ := h
  unfold frzV
  simp only [hg, show 1 % 7000000000 = 1 from rfl, Nat.mul_one, getCells_strs hn, frz_strs, Nat.le_refl, if_true]
theorem sb1 (σ : St) (x : List UInt8) : buildSliceA TT σ 67 1 [(0, .str x)] = some (.sl σ.n 0 1 1, σ.push ⟨[.str x], 1, false⟩) := by
  simp [buildSliceA, ty67, ty9, fillA, repeatCells, putCells, AV.cellsOf, allOne, AV.one]
theorem sb0 (σ : St) : buildSliceA TT σ 67 0 [] = some (.sl σ.n 0 0 0, σ.push ⟨strs [], 1, false⟩) := by
  simp [buildSliceA, ty67, ty9, fillA, repeatCells, strs]
theorem SRow.push (σ : St) (L : List (List UInt8)) : SRow (σ.push ⟨strs L, 1, false⟩) σ.n L := ⟨false, get_push_same, Nat.lt_succ_self _⟩
theorem sappend {σ : St} {b n : Nat} {L : List (List UInt8)} {x : List UInt8} (hb : SRow σ b L) (hn : n = L.length) (hs : n < 1000000) :
    ∃ σ', appendA TT (σ.push ⟨[.str x], 1, false⟩) 67 67 (.sl b 0 n n) (.sl σ.n 0 1 1) = some (.sl (σ.n + 1) 0 (n + 1) (n + 1), σ') ∧ SRow σ' (σ.n + 1) (L ++ [x]) ∧ σ'.n = σ.n + 2 ∧ ∀ c, c ≠ b → c < σ.n → σ'.get c = σ.get c := by
  obtain ⟨o, hg0, hbn⟩ := hb
  have hg : (σ.push ⟨[.str x], 1, false⟩).get b = some ⟨strs L, 1, o⟩ := by rw [get_push_lt hbn]; exact hg0
  have h1 : firstA (σ.push ⟨[.str x], 1, false⟩) 1 1 (.sl σ.n 0 1 1) = some [.str x] := by
    simp [firstA, get_push_same, getCells, dropN, takeN]
  have ha : appendA TT (σ.push ⟨[.str x], 1, false⟩) 67 67 (.sl b 0 n n) (.sl σ.n 0 1 1) =
      some (.sl (σ.n + 1) 0 (n + 1) (n + 1), (if o then (σ.push ⟨[.str x], 1, false⟩).del b else σ.push ⟨[.str x], 1, false⟩).push ⟨strs (L ++ [x]), 1, true⟩) := by
    unfold appendA
    simp only [ty67, ty9, lenA, h1, allOne, AV.one, hg, Nat.mul_one, getCells_strs hn, strs_length]
    rw [if_neg (by simp), if_neg (by omega), if_pos ⟨by omega, by omega, trivial, by omega, by omega⟩]
    cases o <;> simp [n_push, strs_append, growE]
  refine ⟨_, ha, ⟨true, ?_, ?_⟩, ?_, ?_⟩
  · cases o <;> exact get_push_same
  · cases o <;> simp [n_push, n_del]
  · cases o <;> rfl
  · intro c hc hcn
    have hd : ∀ τ : St, τ.n = σ.n + 1 → (τ.push ⟨strs (L ++ [x]), 1, true⟩).get c = τ.get c := fun τ h => get_push_lt (by omega)
    cases o
    · simp only [Bool.false_eq_true, if_false]
      rw [hd _ rfl, get_push_lt hcn]
    · simp only [if_true]
      rw [hd _ rfl, get_del_ne (fun e => hc e.symm), get_push_lt hcn]
/-- The pairs of a text. -/
def prs : List UInt8 → List (UInt8 × UInt8)
  | a :: b :: r => (a, b) :: prs r
  | _ => []
def p2 (L : List (UInt8 × UInt8)) : List (List UInt8) := L.map fun q => [q.1, q.2]
def fpP : List (UInt8 × UInt8) → List UInt8
  | [] => []
  | (a, b) :: r => if a = b then fpP r else a :: fpP r
def dfP : List (UInt8 × UInt8) → List UInt8
  | [] => []
  | (a, b) :: r => (if a = b then 48 else 49) :: dfP r
def smP : List (UInt8 × UInt8) → List UInt8
  | [] => []
  | (a, b) :: r => if a = b then a :: smP r else smP r
def fdS : Nat → List UInt8 → List UInt8
  | 0, _ => []
  | d + 1, s => fpP (prs s) ++ fdS d (dfP (prs s)) ++ fdS d (smP (prs s))
theorem prs_len : ∀ s : List UInt8, 2 * (prs s).length ≤ s.length
  | a :: b :: r => by have := prs_len r; simp only [prs, List.length_cons]; omega
  | [] => by simp [prs]
  | [_] => by simp [prs]
theorem p2_len (L : List (UInt8 × UInt8)) : (p2 L).length = L.length := List.length_map ..
theorem pcs_len : ∀ L : List (UInt8 × UInt8), (fpP L).length + (dfP L).length + (smP L).length = 2 * L.length
  | [] => rfl
  | (a, b) :: r => by
    have := pcs_len r
    by_cases h : a = b <;> simp only [fpP, dfP, smP, h, if_true, if_false, List.length_cons] <;> omega
theorem fdS_len : ∀ (d : Nat) (s : List UInt8), (fdS d s).length ≤ s.length
  | 0, _ => Nat.zero_le _
  | d + 1, s => by
    have h1 := fdS_len d (dfP (prs s))
    have h2 := fdS_len d (smP (prs s))
    have h3 := pcs_len (prs s)
    have h4 := prs_len s
    simp only [fdS, List.length_append]; omega
theorem dp2 {s : List UInt8} {i : Nat} {a b : UInt8} {r : List UInt8} (h : s.drop i = a :: b :: r) : i + 2 ≤ s.length ∧ (s.take (i + 2)).drop i = [a, b] ∧ s.drop (i + 2) = r := by
  have hl : (s.drop i).length = r.length + 2 := by rw [h]; rfl
  rw [List.length_drop] at hl
  refine ⟨by omega, ?_, ?_⟩
  · rw [List.drop_take, h, show i + 2 - i = 2 by omega]; rfl
  · have := congrArg (List.drop 2) h
    simpa [List.drop_drop] using this
theorem dp1 {α : Type} {L : List α} {i : Nat} {x : α} {r : List α} (h : L.drop i = x :: r) : i < L.length ∧ L[i]? = some x ∧ L.drop (i + 1) = r := by
  have hl : (L.drop i).length = r.length + 1 := by rw [h]; rfl
  rw [List.length_drop] at hl
  refine ⟨by omega, ?_, ?_⟩
  · have := congrArg (fun l => l[0]?) h
    simpa using this
  · have := congrArg (List.drop 1) h
    simpa [List.drop_drop] using this

noncomputable def b135 : Code := Tryd.f135.body.getD .skip
noncomputable def B135_0 : Code := (bodyC (bodyC (sndC (fstC (sndC (sndC b135))))))
noncomputable def K135_0 : List It := .lp B135_0 :: .blk 0 :: .code (sndC (sndC (sndC b135))) :: []
theorem xl135_0 {fi : FI} {env : Env} {σ : St} : exI TT fi K135_0 env σ = exI TT fi (.code B135_0 :: K135_0) env σ := by unfold K135_0; exact xI_lp
noncomputable def R135_0_0 : List It := .code (sndC (sndC (sndC b135))) :: []
theorem eK135_0_0 : exitA 0 K135_0 = some R135_0_0 := rfl
theorem l135 (s : List UInt8) (hs : s.length ≤ 1000) : ∀ (suf : List UInt8) (i : Nat) (L : List (List UInt8)) (σ : St) (b : Nat), s.drop i = suf → i ≤ s.length → L.length ≤ i → SRow σ b L →
    ∃ σ' b', exI TT (FI.of Tryd.f135 (TT.an 135)) K135_0 [(0, .str s), (3, .sl b 0 L.length L.length), (4, .int .i64 i)] σ = some (.sl b' 0 (L ++ p2 (prs suf)).length (L ++ p2 (prs suf)).length, σ') ∧ SRow σ' b' (L ++ p2 (prs suf)) := by
  have last : ∀ (suf : List UInt8) (i : Nat) (L : List (List UInt8)) (σ : St) (b : Nat), s.length ≤ i + 1 → i ≤ s.length → prs suf = [] → SRow σ b L →
    ∃ σ' b', exI TT (FI.of Tryd.f135 (TT.an 135)) K135_0 [(0, .str s), (3, .sl b 0 L.length L.length), (4, .int .i64 i)] σ = some (.sl b' 0 (L ++ p2 (prs suf)).length (L ++ p2 (prs suf)).length, σ') ∧ SRow σ' b' (L ++ p2 (prs suf)) := by
    intro suf i L σ b h1 h0 h2 hr
    rw [h2, show L ++ p2 [] = L by simp [p2]]
    refine ⟨σ, b, ?_, hr⟩
    have h3 : ¬ ((i : Int) + 1 < (s.length : Int)) := by omega
    have h3' : (s.length : Int) ≤ (i : Int) + 1 := by omega
    have hw : wrapA .i64 ((i : Int) + 1) = (i : Int) + 1 := wrapA_id (by omega) (by omega)
    generalize hm : s.length = m at *
    rw [fi135]
    rw [xl135_0]
    simp only [B135_0, b135, Tryd.f135, Option.getD, fstC, sndC, bodyC, thnC, elsC]
    simp [xI_seq, xI_region, xI_ret, regA, regOps, runOps, opStep, wantedA, opA, evo, evos, calleeA, lk, nif_eq, putE, paramsE, valS, val2, keepE, restrict, finA, resA, binA, binInt, ofConst, ofConst1, loadA, TK.isAgg, asVar, unA, builtinA, lenOpA, lenA, ileb_cast, ileb_eq, ieqb_dec, indexAddrA, inB_dec, evPairs, storeA, AV.cellsOf, pairsOf, xI_nil, binBool, gcE, evOpt, tagZ, xI_block, xI_loopH, xI_condM, xI_exitM, xI_skip, xI_blk, exitA, ty3, ty9, ty67, eK135_0_0, h3, h3', hw, hm]
    simp only [R135_0_0, b135, Tryd.f135, Option.getD, fstC, sndC, bodyC, thnC, elsC]
    simp [xI_seq, xI_region, xI_ret, regA, regOps, runOps, opStep, wantedA, opA, evo, evos, calleeA, lk, nif_eq, putE, paramsE, valS, val2, keepE, restrict, finA, resA, binA, binInt, ofConst, ofConst1, loadA, TK.isAgg, asVar, unA, builtinA, lenOpA, lenA, ileb_cast, ileb_eq, ieqb_dec, indexAddrA, inB_dec, evPairs, storeA, AV.cellsOf, pairsOf, xI_nil, binBool, gcE, evOpt, tagZ, xI_block, xI_loopH, xI_condM, xI_exitM, xI_skip, xI_blk, exitA, ty3, ty9, ty67, eK135_0_0]
  intro suf
  induction suf using prs.induct with
  | case2 suf hno =>
    intro i L σ b hd hi hL hr
    have hsl : suf.length ≤ 1 := by
      match suf, hno with
      | [], _ => simp
      | [_], _ => simp
      | a :: b :: r, h => exact absurd rfl (h a b r)
    have : (s.drop i).length = suf.length := by rw [hd]
    rw [List.length_drop] at this
    refine last suf i L σ b (by omega) hi ?_ hr
    match suf, hno with
    | [], _ => rfl
    | [_], _ => rfl
    | a :: b :: r, h => exact absurd rfl (h a b r)
  | case1 x y r ih =>
    intro i L σ b hd hi hL hr
    obtain ⟨d1, d2, d3⟩ := dp2 hd
    obtain ⟨σ1, ha, hr1, hn1, _⟩ := sappend (x := [x, y]) hr rfl (by omega)
    obtain ⟨σ', b', h1, h2⟩ := ih (i + 2) (L ++ [[x, y]]) σ1 (σ.n + 1) d3 d1 (by simp; omega) hr1
    have e : L ++ p2 (prs (x :: y :: r)) = L ++ [[x, y]] ++ p2 (prs r) := by simp [prs, p2]
    rw [e]
    refine ⟨σ', b', ?_, h2⟩
    have hsl : ∀ σ : St, sliceA TT σ 9 (.str s) (some (.int .i64 i)) (some (.int .i64 ((i : Int) + 2))) = some (.str [x, y]) := by
      intro σ
      have q1 : (i : Int) + 2 ≤ (s.length : Int) := by omega
      have q2 : 0 ≤ (i : Int) + 2 := by omega
      have q3 : ((i : Int) + 2).toNat = i + 2 := by omega
      have q4 : (i : Int) ≤ (i : Int) + 2 := by omega
      have q5 : i ≤ i + 2 := by omega
      simp [sliceA, ty9, boundA, q1, q2, q3, q4, q5, d2]
    have h3 : (i : Int) + 1 < (s.length : Int) := by omega
    have h3' : ¬ ((s.length : Int) ≤ (i : Int) + 1) := by omega
    have hw : wrapA .i64 ((i : Int) + 1) = (i : Int) + 1 := wrapA_id (by omega) (by omega)
    have hw2 : wrapA .i64 ((i : Int) + 2) = (i : Int) + 2 := wrapA_id (by omega) (by omega)
    have hla : ∀ z : List (List UInt8), (L ++ z).length = L.length + z.length := fun z => List.length_append ..
    rw [show (L ++ [[x, y]]).length = L.length + 1 by simp, show ((i + 2 : Nat) : Int) = (i : Int) + 2 by omega] at h1
    generalize (L ++ [[x, y]] ++ p2 (prs r)).length = N at *
    generalize hm : s.length = m at *
    rw [fi135] at h1 ⊢
    rw [xl135_0]
    simp only [B135_0, b135, Tryd.f135, Option.getD, fstC, sndC, bodyC, thnC, elsC]
    simp [xI_seq, xI_region, xI_ret, regA, regOps, runOps, opStep, wantedA, opA, evo, evos, calleeA, lk, nif_eq, putE, paramsE, valS, val2, keepE, restrict, finA, resA, binA, binInt, ofConst, ofConst1, loadA, TK.isAgg, asVar, unA, builtinA, lenOpA, lenA, ileb_cast, ileb_eq, ieqb_dec, indexAddrA, inB_dec, evPairs, storeA, AV.cellsOf, pairsOf, xI_nil, binBool, gcE, evOpt, tagZ, xI_block, xI_loopH, xI_condM, xI_exitM, xI_skip, xI_blk, exitA, ty3, ty9, ty67, eK135_0_0, h3, h3', hw, hw2, hm, hsl, sb1, ha]
    exact h1
theorem v135 (s : List UInt8) (hs : s.length ≤ 1000) : FnF TT 135 [.str s] (.lst (prs s).length (strs (p2 (prs s)))) := by
  obtain ⟨σ', b', h1, h2⟩ := l135 s hs s 0 [] ((⟨[], 0⟩ : St).push ⟨strs [], 1, false⟩) 0 rfl (Nat.zero_le _) (Nat.le_refl _) (SRow.push ⟨[], 0⟩ [])
  simp only [List.nil_append, p2_len] at h1 h2
  refine FnF.mk fn135 rfl md135 ⟨σ', .sl b' 0 (prs s).length (prs s).length, ?_, h2.frz (by rw [p2_len])⟩
  simp only [List.length_nil, show ((0 : Nat) : Int) = 0 from rfl] at h1
  rw [← h1, fi135]
  simp [xI_seq, xI_region, xI_ret, regA, regOps, runOps, opStep, wantedA, opA, evo, evos, calleeA, lk, nif_eq, putE, paramsE, valS, val2, keepE, restrict, finA, resA, binA, binInt, ofConst, ofConst1, loadA, TK.isAgg, asVar, unA, builtinA, lenOpA, lenA, ileb_cast, ileb_eq, ieqb_dec, indexAddrA, inB_dec, evPairs, storeA, AV.cellsOf, pairsOf, xI_nil, binBool, gcE, evOpt, tagZ, xI_block, xI_loopH, xI_condM, xI_exitM, xI_skip, xI_blk, exitA, ty3, ty9, ty67, eK135_0_0, sb0]
  rfl
theorem c135 (s : List UInt8) (hs : s.length ≤ 1000) (σ : St) : callI TT 135 [.str s] σ = some (.lst (prs s).length (strs (p2 (prs s))), σ) := v135 s hs σ [.str s] rfl rfl
theorem une {a b : UInt8} (h : a ≠ b) : ¬ (a.toNat : Int) = (b.toNat : Int) := fun e => h (UInt8.toNat_inj.1 (by omega))

noncomputable def b96 : Code := Tryd.f96.body.getD .skip
noncomputable def B96_0 : Code := (bodyC (bodyC (sndC (fstC (sndC (sndC b96))))))
noncomputable def K96_0 : List It := .lp B96_0 :: .blk 0 :: .code (sndC (sndC (sndC b96))) :: []
theorem xl96_0 {fi : FI} {env : Env} {σ : St} : exI TT fi K96_0 env σ = exI TT fi (.code B96_0 :: K96_0) env σ := by unfold K96_0; exact xI_lp
noncomputable def R96_0_0 : List It := .code (sndC (sndC (sndC b96))) :: []
theorem eK96_0_0 : exitA 0 K96_0 = some R96_0_0 := rfl
theorem l96 (L : List (UInt8 × UInt8)) (hL : L.length ≤ 1000) (q : Nat) : ∀ (suf : List (UInt8 × UInt8)) (i : Nat) (l : List UInt8) (σ : St) (r : Nat), L.drop i = suf → i ≤ L.length → l.length ≤ i → Bld σ q r l →
    ∃ σ', exI TT (FI.of Tryd.f96 (TT.an 96)) K96_0 [(3, .ptr q 0), (7, .lst L.length (strs (p2 L))), (8, .int .i64 L.length), (9, .int .i64 i)] σ = some (.str (l ++ fpP suf), σ') := by
  intro suf
  induction suf with
  | nil =>
    intro i l σ r hd hi hl hb
    have : (L.drop i).length = 0 := by rw [hd]; rfl
    rw [List.length_drop] at this
    obtain rfl : i = L.length := by omega
    obtain ⟨σ1, hs, _, _⟩ := c92 hb (by omega)
    refine ⟨σ1, ?_⟩
    rw [show l ++ fpP [] = l by simp [fpP]]
    generalize L.length = m at *
    rw [fi96]
    rw [xl96_0]
    simp only [B96_0, b96, Tryd.f96, Option.getD, fstC, sndC, bodyC, thnC, elsC]
    simp [xI_seq, xI_region, xI_ret, regA, regOps, runOps, opStep, wantedA, opA, evo, evos, calleeA, lk, nif_eq, putE, paramsE, valS, val2, keepE, restrict, finA, resA, binA, binInt, ofConst, ofConst1, loadA, TK.isAgg, asVar, unA, builtinA, lenOpA, lenA, ileb_cast, ileb_eq, ieqb_dec, indexAddrA, inB_dec, evPairs, storeA, AV.cellsOf, pairsOf, xI_nil, binBool, gcE, evOpt, tagZ, xI_block, xI_loopH, xI_condM, xI_exitM, xI_skip, xI_blk, exitA, ty3, ty5, ty9, ty67, ty117, eK96_0_0]
    simp only [R96_0_0, b96, Tryd.f96, Option.getD, fstC, sndC, bodyC, thnC, elsC]
    simp [xI_seq, xI_region, xI_ret, regA, regOps, runOps, opStep, wantedA, opA, evo, evos, calleeA, lk, nif_eq, putE, paramsE, valS, val2, keepE, restrict, finA, resA, binA, binInt, ofConst, ofConst1, loadA, TK.isAgg, asVar, unA, builtinA, lenOpA, lenA, ileb_cast, ileb_eq, ieqb_dec, indexAddrA, inB_dec, evPairs, storeA, AV.cellsOf, pairsOf, xI_nil, binBool, gcE, evOpt, tagZ, xI_block, xI_loopH, xI_condM, xI_exitM, xI_skip, xI_blk, exitA, ty3, ty5, ty9, ty67, ty117, eK96_0_0, hs]
  | cons x suf ih =>
    intro i l σ r hd hi hl hb
    obtain ⟨a, b⟩ := x
    obtain ⟨d1, d2, d3⟩ := dp1 hd
    have hrd : ∀ σ : St, cellsAt σ (.lp (strs (p2 L)) i) 1 = some [.str [a, b]] := fun σ => strs_read (by rw [p2, List.getElem?_map, d2]; rfl)
    have hlt : (i : Int) < (L.length : Int) := by omega
    have hnl : ¬ ((L.length : Int) ≤ (i : Int)) := by omega
    have hnl2 : ¬ (L.length ≤ i) := by omega
    have hw : wrapA .i64 ((i : Int) + 1) = (i : Int) + 1 := wrapA_id (by omega) (by omega)
    by_cases hab : a = b
    · subst hab
      obtain ⟨σ', h1⟩ := ih (i + 1) l σ r d3 (by omega) (by omega) hb
      refine ⟨σ', ?_⟩
      rw [show fpP ((a, a) :: suf) = fpP suf by simp [fpP], ← h1]
      rw [show ((i + 1 : Nat) : Int) = (i : Int) + 1 by omega]
      clear h1
      generalize L.length = m at *
      rw [fi96]
      conv => lhs; rw [xl96_0]
      simp only [B96_0, b96, Tryd.f96, Option.getD, fstC, sndC, bodyC, thnC, elsC]
      simp [xI_seq, xI_region, xI_ret, regA, regOps, runOps, opStep, wantedA, opA, evo, evos, calleeA, lk, nif_eq, putE, paramsE, valS, val2, keepE, restrict, finA, resA, binA, binInt, ofConst, ofConst1, loadA, TK.isAgg, asVar, unA, builtinA, lenOpA, lenA, ileb_cast, ileb_eq, ieqb_dec, indexAddrA, inB_dec, evPairs, storeA, AV.cellsOf, pairsOf, xI_nil, binBool, gcE, evOpt, tagZ, xI_block, xI_loopH, xI_condM, xI_exitM, xI_skip, xI_blk, exitA, ty3, ty5, ty9, ty67, ty117, eK96_0_0, indexA, ty9, ty5, hlt, hnl, hnl2, d1, hw, hrd]
    · obtain ⟨σ1, r1, hc, hb1, hrn, hnn, ho⟩ := c91 hb (by omega) a
      obtain ⟨σ', h1⟩ := ih (i + 1) (l ++ [a]) σ1 r1 d3 (by omega) (by simp; omega) hb1
      refine ⟨σ', ?_⟩
      rw [show l ++ fpP ((a, b) :: suf) = l ++ [a] ++ fpP suf by simp [fpP, hab], ← h1]
      rw [show ((i + 1 : Nat) : Int) = (i : Int) + 1 by omega]
      clear h1
      have hne := une hab
      generalize L.length = m at *
      rw [fi96]
      conv => lhs; rw [xl96_0]
      simp only [B96_0, b96, Tryd.f96, Option.getD, fstC, sndC, bodyC, thnC, elsC]
      simp [xI_seq, xI_region, xI_ret, regA, regOps, runOps, opStep, wantedA, opA, evo, evos, calleeA, lk, nif_eq, putE, paramsE, valS, val2, keepE, restrict, finA, resA, binA, binInt, ofConst, ofConst1, loadA, TK.isAgg, asVar, unA, builtinA, lenOpA, lenA, ileb_cast, ileb_eq, ieqb_dec, indexAddrA, inB_dec, evPairs, storeA, AV.cellsOf, pairsOf, xI_nil, binBool, gcE, evOpt, tagZ, xI_block, xI_loopH, xI_condM, xI_exitM, xI_skip, xI_blk, exitA, ty3, ty5, ty9, ty67, ty117, eK96_0_0, indexA, ty9, ty5, hlt, hnl, hnl2, d1, hw, hrd, hne, hc]
theorem v96 (s : List UInt8) (hs : s.length ≤ 1000) : FnV TT 96 [.str s] (.str (fpP (prs s))) := by
  have hp := prs_len s
  obtain ⟨σ', h⟩ := l96 (prs s) (by omega) 0 (prs s) 0 [] ((⟨[], 0⟩ : St).push ⟨[.nilP, .nilS], tagOf 117 2, false⟩) 0 rfl (Nat.zero_le _) (Nat.le_refl _) (Bld.new ⟨[], 0⟩)
  have hc := c135 s hs
  refine FnV.mk fn96 rfl md96 ⟨σ', ?_⟩ (fun _ => rfl) rfl
  simp only [List.nil_append, show ((0 : Nat) : Int) = 0 from rfl] at h
  rw [← h, fi96]
  simp [xI_seq, xI_region, xI_ret, regA, regOps, runOps, opStep, wantedA, opA, evo, evos, calleeA, lk, nif_eq, putE, paramsE, valS, val2, keepE, restrict, finA, resA, binA, binInt, ofConst, ofConst1, loadA, TK.isAgg, asVar, unA, builtinA, lenOpA, lenA, ileb_cast, ileb_eq, ieqb_dec, indexAddrA, inB_dec, evPairs, storeA, AV.cellsOf, pairsOf, xI_nil, binBool, gcE, evOpt, tagZ, xI_block, xI_loopH, xI_condM, xI_exitM, xI_skip, xI_blk, exitA, ty3, ty5, ty9, ty67, ty117, eK96_0_0, ty117, allOne, AV.one, n_push, hc]
  rfl

noncomputable def b97 : Code := Tryd.f97.body.getD .skip
noncomputable def B97_0 : Code := (bodyC (bodyC (sndC (fstC (sndC (sndC (sndC b97)))))))
noncomputable def K97_0 : List It := .lp B97_0 :: .blk 0 :: .code (sndC (sndC (sndC (sndC b97)))) :: []
theorem xl97_0 {fi : FI} {env : Env} {σ : St} : exI TT fi K97_0 env σ = exI TT fi (.code B97_0 :: K97_0) env σ := by unfold K97_0; exact xI_lp
noncomputable def R97_0_0 : List It := .code (sndC (sndC (sndC (sndC b97)))) :: []
theorem eK97_0_0 : exitA 0 K97_0 = some R97_0_0 := rfl
/-- What the loop of deeper pairs leaves behind: two builders, apart. -/
def B2 (σ : St) (r1 r2 : Nat) (l1 l2 : List UInt8) : Prop := Bld σ 0 r1 l1 ∧ Bld σ 1 r2 l2 ∧ r1 ≠ 1 ∧ r2 ≠ 0 ∧ r1 ≠ r2
theorem B2.one {σ σ' : St} {r1 r2 r' : Nat} {l1 l2 l' : List UInt8} (h : B2 σ r1 r2 l1 l2) (hb : Bld σ' 0 r' l') (hr : σ.n ≤ r') (hn : σ.n ≤ σ'.n) (ho : ∀ c, c < σ.n → c ≠ 0 → c ≠ r1 → σ'.get c = σ.get c) : B2 σ' r' r2 l' l2 := by
  obtain ⟨h1, h2, h3, h4, h5⟩ := h
  have n1 := h2.1
  have n2 := h2.rlt
  exact ⟨hb, h2.keep hn (ho 1 n1 (by decide) (fun e => h3 e.symm)) (ho r2 n2 h4 (fun e => h5 e.symm)), by omega, h4, by omega⟩
theorem B2.two {σ σ' : St} {r1 r2 r' : Nat} {l1 l2 l' : List UInt8} (h : B2 σ r1 r2 l1 l2) (hb : Bld σ' 1 r' l') (hr : σ.n ≤ r') (hn : σ.n ≤ σ'.n) (ho : ∀ c, c < σ.n → c ≠ 1 → c ≠ r2 → σ'.get c = σ.get c) : B2 σ' r1 r' l1 l' := by
  obtain ⟨h1, h2, h3, h4, h5⟩ := h
  have n1 := h1.1
  have n2 := h1.rlt
  exact ⟨h1.keep hn (ho 0 n1 (by decide) (fun e => h4 e.symm)) (ho r1 n2 h3 h5), hb, h3, by omega, by omega⟩
theorem l97 (s : List UInt8) (d : Nat) (L : List (UInt8 × UInt8)) (hL : L.length ≤ 1000) (w : List UInt8) (hend : ∀ σ r1 r2, B2 σ r1 r2 (dfP L) (smP L) → ∃ σ', exI TT (FI.of Tryd.f97 (TT.an 97)) R97_0_0 [(0, .str s), (1, .int .i64 d), (5, .ptr 0 0), (6, .ptr 1 0), (12, .lst L.length (strs (p2 L))), (13, .int .i64 L.length), (14, .int .i64 L.length), (15, .bool false)] σ = some (.str w, σ')) :
    ∀ (suf : List (UInt8 × UInt8)) (i : Nat) (l1 l2 : List UInt8) (σ : St) (r1 r2 : Nat), L.drop i = suf → i ≤ L.length → l1.length ≤ i → l2.length ≤ i → B2 σ r1 r2 l1 l2 → dfP L = l1 ++ dfP suf → smP L = l2 ++ smP suf →
    ∃ σ', exI TT (FI.of Tryd.f97 (TT.an 97)) K97_0 [(0, .str s), (1, .int .i64 d), (5, .ptr 0 0), (6, .ptr 1 0), (12, .lst L.length (strs (p2 L))), (13, .int .i64 L.length), (14, .int .i64 i)] σ = some (.str w, σ') := by
  intro suf
  induction suf with
  | nil =>
    intro i l1 l2 σ r1 r2 hd hi hl1 hl2 hb e1 e2
    have : (L.drop i).length = 0 := by rw [hd]; rfl
    rw [List.length_drop] at this
    obtain rfl : i = L.length := by omega
    rw [show l1 ++ dfP [] = l1 by simp [dfP]] at e1
    rw [show l2 ++ smP [] = l2 by simp [smP]] at e2
    obtain ⟨σ1, h⟩ := hend σ r1 r2 (by rw [e1, e2]; exact hb)
    refine ⟨σ1, ?_⟩
    rw [← h]
    generalize L.length = m at *
    rw [fi97]
    conv => lhs; rw [xl97_0]
    simp only [B97_0, b97, Tryd.f97, Option.getD, fstC, sndC, bodyC, thnC, elsC]
    simp [xI_seq, xI_region, xI_ret, regA, regOps, runOps, opStep, wantedA, opA, evo, evos, calleeA, lk, nif_eq, putE, paramsE, valS, val2, keepE, restrict, finA, resA, binA, binInt, ofConst, ofConst1, loadA, TK.isAgg, asVar, unA, builtinA, lenOpA, lenA, ileb_cast, ileb_eq, ieqb_dec, indexAddrA, inB_dec, evPairs, storeA, AV.cellsOf, pairsOf, xI_nil, binBool, gcE, evOpt, tagZ, xI_block, xI_loopH, xI_condM, xI_exitM, xI_skip, xI_blk, exitA, ty2, ty3, ty5, ty9, ty67, ty117, eK97_0_0]
  | cons x suf ih =>
    intro i l1 l2 σ r1 r2 hd hi hl1 hl2 hb e1 e2
    obtain ⟨a, b⟩ := x
    obtain ⟨d1, d2, d3⟩ := dp1 hd
    have hrd : ∀ σ : St, cellsAt σ (.lp (strs (p2 L)) i) 1 = some [.str [a, b]] := fun σ => strs_read (by rw [p2, List.getElem?_map, d2]; rfl)
    have hlt : (i : Int) < (L.length : Int) := by omega
    have hnl : ¬ ((L.length : Int) ≤ (i : Int)) := by omega
    have hnl2 : ¬ (L.length ≤ i) := by omega
    have hw : wrapA .i64 ((i : Int) + 1) = (i : Int) + 1 := wrapA_id (by omega) (by omega)
    by_cases hab : a = b
    · subst hab
      obtain ⟨σ1, q1, hc1, hb1, hrn1, hnn1, ho1⟩ := c91 hb.1 (by omega) 48
      have k1 := hb.one hb1 hrn1 hnn1 ho1
      obtain ⟨σ2, q2, hc2, hb2, hrn2, hnn2, ho2⟩ := c91 k1.2.1 (by omega) a
      have k2 := k1.two hb2 hrn2 hnn2 ho2
      obtain ⟨σ', h1⟩ := ih (i + 1) (l1 ++ [48]) (l2 ++ [a]) σ2 q1 q2 d3 (by omega) (by simp; omega) (by simp; omega) k2 (by rw [e1]; simp [dfP]) (by rw [e2]; simp [smP])
      refine ⟨σ', ?_⟩
      rw [← h1]
      rw [show ((i + 1 : Nat) : Int) = (i : Int) + 1 by omega]
      clear h1
      rw [show (((48 : UInt8).toNat : Nat) : Int) = 48 from rfl] at hc1
      generalize L.length = m at *
      rw [fi97]
      conv => lhs; rw [xl97_0]
      simp only [B97_0, b97, Tryd.f97, Option.getD, fstC, sndC, bodyC, thnC, elsC]
      simp [xI_seq, xI_region, xI_ret, regA, regOps, runOps, opStep, wantedA, opA, evo, evos, calleeA, lk, nif_eq, putE, paramsE, valS, val2, keepE, restrict, finA, resA, binA, binInt, ofConst, ofConst1, loadA, TK.isAgg, asVar, unA, builtinA, lenOpA, lenA, ileb_cast, ileb_eq, ieqb_dec, indexAddrA, inB_dec, evPairs, storeA, AV.cellsOf, pairsOf, xI_nil, binBool, gcE, evOpt, tagZ, xI_block, xI_loopH, xI_condM, xI_exitM, xI_skip, xI_blk, exitA, ty2, ty3, ty5, ty9, ty67, ty117, eK97_0_0, indexA, ty9, ty5, hlt, hnl, hnl2, d1, hw, hrd, hc1, hc2]
    · obtain ⟨σ1, q1, hc1, hb1, hrn1, hnn1, ho1⟩ := c91 hb.1 (by omega) 49
      have k1 := hb.one hb1 hrn1 hnn1 ho1
      obtain ⟨σ', h1⟩ := ih (i + 1) (l1 ++ [49]) l2 σ1 q1 r2 d3 (by omega) (by simp; omega) (by omega) k1 (by rw [e1]; simp [dfP, hab]) (by rw [e2]; simp [smP, hab])
      refine ⟨σ', ?_⟩
      rw [← h1]
      rw [show ((i + 1 : Nat) : Int) = (i : Int) + 1 by omega]
      clear h1
      rw [show (((49 : UInt8).toNat : Nat) : Int) = 49 from rfl] at hc1
      have hne := une hab
      generalize L.length = m at *
      rw [fi97]
      conv => lhs; rw [xl97_0]
      simp only [B97_0, b97, Tryd.f97, Option.getD, fstC, sndC, bodyC, thnC, elsC]
      simp [xI_seq, xI_region, xI_ret, regA, regOps, runOps, opStep, wantedA, opA, evo, evos, calleeA, lk, nif_eq, putE, paramsE, valS, val2, keepE, restrict, finA, resA, binA, binInt, ofConst, ofConst1, loadA, TK.isAgg, asVar, unA, builtinA, lenOpA, lenA, ileb_cast, ileb_eq, ieqb_dec, indexAddrA, inB_dec, evPairs, storeA, AV.cellsOf, pairsOf, xI_nil, binBool, gcE, evOpt, tagZ, xI_block, xI_loopH, xI_condM, xI_exitM, xI_skip, xI_blk, exitA, ty2, ty3, ty5, ty9, ty67, ty117, eK97_0_0, indexA, ty9, ty5, hlt, hnl, hnl2, d1, hw, hrd, hne, hc1]
theorem sadd {x y : List UInt8} (h : x.length + y.length ≤ 100000) : binStr .add x y = some (.str (x ++ y)) := by
  simp only [binStr]; rw [if_pos (by omega)]
theorem v97 : ∀ (d : Nat) (s : List UInt8), d ≤ 1000 → s.length ≤ 1000 → FnV TT 97 [.str s, .int .i64 d] (.str (fdS d s)) := by
  intro d
  induction d with
  | zero =>
    intro s _ hs
    refine FnV.mk fn97 rfl md97 ⟨⟨[], 0⟩, ?_⟩ (fun _ => rfl) rfl
    rw [show ((0 : Nat) : Int) = 0 from rfl, fi97]
    simp [xI_seq, xI_region, xI_ret, regA, regOps, runOps, opStep, wantedA, opA, evo, evos, calleeA, lk, nif_eq, putE, paramsE, valS, val2, keepE, restrict, finA, resA, binA, binInt, ofConst, ofConst1, loadA, TK.isAgg, asVar, unA, builtinA, lenOpA, lenA, ileb_cast, ileb_eq, ieqb_dec, indexAddrA, inB_dec, evPairs, storeA, AV.cellsOf, pairsOf, xI_nil, binBool, gcE, evOpt, tagZ, xI_block, xI_loopH, xI_condM, xI_exitM, xI_skip, xI_blk, exitA, ty2, ty3, ty5, ty9, ty67, ty117, eK97_0_0, fdS]
  | succ d ih =>
    intro s hd hs
    have hp := prs_len s
    have h3 := pcs_len (prs s)
    obtain ⟨σ', h⟩ := l97 s (d + 1) (prs s) (by omega) (fdS (d + 1) s) (by
      intro σ r1 r2 hb
      obtain ⟨σ1, c1, n1, o1⟩ := c92 hb.1 (by omega)
      have hb2 : Bld σ1 1 r2 (smP (prs s)) := hb.2.1.keep (Nat.le_of_eq n1.symm) (o1 1 (fun e => hb.2.2.1 e.symm)) (o1 r2 (fun e => hb.2.2.2.2 e.symm))
      obtain ⟨σ2, c2, n2, o2⟩ := c92 hb2 (by omega)
      refine ⟨σ2, ?_⟩
      have c0 := v96 s hs σ [.str s] rfl
      have c3 := ih (dfP (prs s)) (by omega) (by omega) σ1 [.str (dfP (prs s)), .int .i64 d] rfl
      have c4 := ih (smP (prs s)) (by omega) (by omega) σ2 [.str (smP (prs s)), .int .i64 d] rfl
      have q1 := fdS_len d (dfP (prs s))
      have q2 := fdS_len d (smP (prs s))
      have a1 := sadd (x := fpP (prs s)) (y := fdS d (dfP (prs s))) (by omega)
      have a2 := sadd (x := fpP (prs s) ++ fdS d (dfP (prs s))) (y := fdS d (smP (prs s))) (by rw [List.length_append]; omega)
      have hw : wrapA .i64 ((d : Int) + 1 - 1) = (d : Int) := by rw [wrapA_id (by omega) (by omega)]; omega
      have hw' : wrapA .i64 (d : Int) = (d : Int) := wrapA_id (by omega) (by omega)
      rw [show fdS (d + 1) s = fpP (prs s) ++ fdS d (dfP (prs s)) ++ fdS d (smP (prs s)) from rfl, show ((d + 1 : Nat) : Int) = (d : Int) + 1 by omega]
      clear hb hb2 ih q1 q2 o1 o2
      generalize fpP (prs s) ++ fdS d (dfP (prs s)) ++ fdS d (smP (prs s)) = w3 at *
      generalize fpP (prs s) ++ fdS d (dfP (prs s)) = w2 at *
      generalize fdS d (dfP (prs s)) = w1 at *
      generalize fdS d (smP (prs s)) = w0 at *
      generalize fpP (prs s) = w4 at *
      rw [fi97]
      simp only [R97_0_0, b97, Tryd.f97, Option.getD, fstC, sndC, bodyC, thnC, elsC]
      simp [xI_seq, xI_region, xI_ret, regA, regOps, runOps, opStep, wantedA, opA, evo, evos, calleeA, lk, nif_eq, putE, paramsE, valS, val2, keepE, restrict, finA, resA, binA, binInt, ofConst, ofConst1, loadA, TK.isAgg, asVar, unA, builtinA, lenOpA, lenA, ileb_cast, ileb_eq, ieqb_dec, indexAddrA, inB_dec, evPairs, storeA, AV.cellsOf, pairsOf, xI_nil, binBool, gcE, evOpt, tagZ, xI_block, xI_loopH, xI_condM, xI_exitM, xI_skip, xI_blk, exitA, ty2, ty3, ty5, ty9, ty67, ty117, eK97_0_0, c0, c1, c2, c3, c4, hw, hw', a1, a2]) (prs s) 0 [] [] (((⟨[], 0⟩ : St).push ⟨[.nilP, .nilS], tagOf 117 2, false⟩).push ⟨[.nilP, .nilS], tagOf 117 2, false⟩) 0 1 rfl (Nat.zero_le _) (Nat.le_refl _) (Nat.le_refl _)
      ⟨(Bld.new ⟨[], 0⟩).keep (Nat.le_succ _) (get_push_lt (by decide)) (get_push_lt (by decide)), Bld.new ((⟨[], 0⟩ : St).push ⟨[.nilP, .nilS], tagOf 117 2, false⟩), by decide, by decide, by decide⟩ rfl rfl
    have hc := c135 s hs
    refine FnV.mk fn97 rfl md97 ⟨σ', ?_⟩ (fun _ => rfl) rfl
    simp only [show ((0 : Nat) : Int) = 0 from rfl] at h
    rw [← h, fi97]
    rw [show ((d + 1 : Nat) : Int) = (d : Int) + 1 by omega]
    have hd0 : ¬ (d : Int) + 1 = 0 := by omega
    simp [xI_seq, xI_region, xI_ret, regA, regOps, runOps, opStep, wantedA, opA, evo, evos, calleeA, lk, nif_eq, putE, paramsE, valS, val2, keepE, restrict, finA, resA, binA, binInt, ofConst, ofConst1, loadA, TK.isAgg, asVar, unA, builtinA, lenOpA, lenA, ileb_cast, ileb_eq, ieqb_dec, indexAddrA, inB_dec, evPairs, storeA, AV.cellsOf, pairsOf, xI_nil, binBool, gcE, evOpt, tagZ, xI_block, xI_loopH, xI_condM, xI_exitM, xI_skip, xI_blk, exitA, ty2, ty3, ty5, ty9, ty67, ty117, eK97_0_0, ty117, allOne, AV.one, n_push, hd0, hc]
    rfl

theorem v48 (s : List UInt8) (hs : s.length ≤ 400) : FnV TT 48 [.str s] (.tup [.str (if isBits s = true then fpP (prs s) else []), .bool (isBits s)]) := by
  refine FnV.mk fn48 rfl md48 ⟨⟨[], 0⟩, ?_⟩ (fun _ => rfl) rfl
  have h := c63 s (by omega) ⟨[], 0⟩
  have c1 := v96 s (by omega) ⟨[], 0⟩ [.str s] rfl
  rw [fi48]
  cases hb : isBits s with
  | false => rw [hb] at h; simp [xI_seq, xI_region, xI_ret, regA, regOps, runOps, opStep, wantedA, opA, evo, evos, calleeA, lk, nif_eq, putE, paramsE, valS, val2, keepE, restrict, finA, resA, binA, binInt, ofConst, ofConst1, loadA, TK.isAgg, asVar, unA, builtinA, lenOpA, lenA, ileb_cast, ileb_eq, ieqb_dec, indexAddrA, inB_dec, evPairs, storeA, AV.cellsOf, pairsOf, xI_nil, binBool, gcE, evOpt, tagZ, xI_block, xI_loopH, xI_condM, xI_exitM, xI_skip, xI_blk, exitA, ty4, h]
  | true => rw [hb] at h; simp [xI_seq, xI_region, xI_ret, regA, regOps, runOps, opStep, wantedA, opA, evo, evos, calleeA, lk, nif_eq, putE, paramsE, valS, val2, keepE, restrict, finA, resA, binA, binInt, ofConst, ofConst1, loadA, TK.isAgg, asVar, unA, builtinA, lenOpA, lenA, ileb_cast, ileb_eq, ieqb_dec, indexAddrA, inB_dec, evPairs, storeA, AV.cellsOf, pairsOf, xI_nil, binBool, gcE, evOpt, tagZ, xI_block, xI_loopH, xI_condM, xI_exitM, xI_skip, xI_blk, exitA, ty4, h, c1]

theorem v49 (s : List UInt8) (hs : s.length ≤ 400) (d : Nat) (hd : d ≤ 8) : FnV TT 49 [.str s, .int .i64 d] (.tup [.str (if isBits s = true then fdS d s else []), .bool (isBits s)]) := by
  refine FnV.mk fn49 rfl md49 ⟨⟨[], 0⟩, ?_⟩ (fun _ => rfl) rfl
  have h := c63 s (by omega) ⟨[], 0⟩
  have h2 := c69 d 0 8 ⟨[], 0⟩
  rw [show inR (d : Int) 0 8 = true from inR_iff.2 (by omega)] at h2
  have c1 := v97 d s (by omega) (by omega) ⟨[], 0⟩ [.str s, .int .i64 d] rfl
  rw [fi49]
  cases hb : isBits s with
  | false => rw [hb] at h; simp [xI_seq, xI_region, xI_ret, regA, regOps, runOps, opStep, wantedA, opA, evo, evos, calleeA, lk, nif_eq, putE, paramsE, valS, val2, keepE, restrict, finA, resA, binA, binInt, ofConst, ofConst1, loadA, TK.isAgg, asVar, unA, builtinA, lenOpA, lenA, ileb_cast, ileb_eq, ieqb_dec, indexAddrA, inB_dec, evPairs, storeA, AV.cellsOf, pairsOf, xI_nil, binBool, gcE, evOpt, tagZ, xI_block, xI_loopH, xI_condM, xI_exitM, xI_skip, xI_blk, exitA, ty4, h]
  | true => rw [hb] at h; simp [xI_seq, xI_region, xI_ret, regA, regOps, runOps, opStep, wantedA, opA, evo, evos, calleeA, lk, nif_eq, putE, paramsE, valS, val2, keepE, restrict, finA, resA, binA, binInt, ofConst, ofConst1, loadA, TK.isAgg, asVar, unA, builtinA, lenOpA, lenA, ileb_cast, ileb_eq, ieqb_dec, indexAddrA, inB_dec, evPairs, storeA, AV.cellsOf, pairsOf, xI_nil, binBool, gcE, evOpt, tagZ, xI_block, xI_loopH, xI_condM, xI_exitM, xI_skip, xI_blk, exitA, ty4, h, h2, c1]

end Go.Proofs.YthkdbkjkccogfaaDoor
