/- Contracts: tables, shrunken bits. Nothing is claimed here; no condition. -/
import Derived.Test.YthkdbkjkccogfaaDoorOc
namespace Go.Proofs.YthkdbkjkccogfaaDoor
open Go Go.Abs
set_option linter.unusedSimpArgs false
set_option linter.unusedVariables false
open Go.Wd
/-- Texts as cells. -/
def strs (L : List (List UInt8)) : List AV := L.map .str
theorem strs_length (L : List (List UInt8)) : (strs L).length = L.length := List.length_map ..
theorem strs_append (L : List (List UInt8)) (x : List UInt8) : strs (L ++ [x]) = strs L ++ [.str x] := by simp [strs]
theorem allOne_strs : ∀ L : List (List UInt8), allOne (strs L) = true
  | [] => rfl
  | _ :: r => by simp [strs, allOne, AV.one]; exact allOne_strs r
theorem getCells_strs {L : List (List UInt8)} {n : Nat} (h : n = L.length) : getCells (strs L) 0 n = some (strs L) := by
  subst h
  rw [getCells_eq, if_pos (by simp [strs_length]), List.drop_zero, List.take_of_length_le (by simp [strs_length])]
theorem strs_read {L : List (List UInt8)} {i : Nat} {x : List UInt8} {σ : St} (h : L[i]? = some x) : cellsAt σ (.lp (strs L) i) 1 = some [.str x] := by
  obtain ⟨hi, hx⟩ := List.getElem?_eq_some_iff.1 h
  show getCells (strs L) i 1 = _
  rw [getCells_eq, if_pos (by simp [strs_length]; omega)]
  simp only [strs, ← List.map_drop, ← List.map_take]
  rw [List.drop_eq_getElem_cons hi, hx]
  rfl
theorem frz_strs {σ : St} {d : Nat} : ∀ L : List (List UInt8), mapO (frzV σ (d + 1)) (strs L) = some (strs L)
  | [] => rfl
  | x :: r => mapO_cons rfl (frz_strs r)
def SRow (σ : St) (b : Nat) (L : List (List UInt8)) : Prop := ∃ o, σ.get b = some ⟨strs L, 1, o⟩ ∧ b < σ.n
theorem SRow.lt {σ : St} {b : Nat} {L : List (List UInt8)} (h : SRow σ b L) : b < σ.n := by obtain ⟨_, _, h⟩ := h; exact h
theorem SRow.keep {σ σ' : St} {b : Nat} {L : List (List UInt8)} (h : SRow σ b L) (hn : σ.n ≤ σ'.n) (he : σ'.get b = σ.get b) : SRow σ' b L := by
  obtain ⟨o, h, hlt⟩ := h; exact ⟨o, by rw [he]; exact h, by omega⟩
theorem SRow.frz {σ : St} {b : Nat} {L : List (List UInt8)} {d n : Nat} (h : SRow σ b L) (hn : n = L.length) : frzV σ (d + 2) (.sl b 0 n n) = some (.lst n (strs L)) := by
  obtain ⟨o, hg, _⟩ := h
  unfold frzV
  simp only [hg, show 1 % 7000000000 = 1 from rfl, Nat.mul_one, getCells_strs hn, frz_strs, Nat.le_refl, if_true]
theorem sb1 (σ : St) (x : List UInt8) : buildSliceA TT σ 67 1 [(0, .str x)] = some (.sl σ.n 0 1 1, σ.push ⟨[.str x], 1, false⟩) := by
  simp [buildSliceA, ty67, ty9, fillA, repeatCells, putCells, AV.cellsOf, allOne, AV.one]
theorem sb0 (σ : St) : buildSliceA TT σ 67 0 [] = some (.sl σ.n 0 0 0, σ.push ⟨strs [], 1, false⟩) := by
  simp [buildSliceA, ty67, ty9, fillA, repeatCells, strs]
theorem SRow.push (σ : St) (L : List (List UInt8)) : SRow (σ.push ⟨strs L, 1, false⟩) σ.n L := ⟨false, get_push_same, Nat.lt_succ_self _⟩
theorem sappend {σ : St} {b n : Nat} {L : List (List UInt8)} {x : List UInt8} (hb : SRow σ b L) (hn : n = L.length) (hs : n < 1000000) :
    ∃ σ', appendA TT (σ.push ⟨[.str x], 1, false⟩) 67 67 (.sl b 0 n n) (.sl σ.n 0 1 1) = some (.sl (σ.n + 1) 0 (n + 1) (n + 1), σ') ∧ SRow σ' (σ.n + 1) (L ++ [x]) ∧ σ'.n = σ.n + 2 ∧ ∀ c, c ≠ b → c < σ.n → σ'.get c = σ.get c := by
  obtain ⟨o, hg0, hbn⟩ := hb
  have hg : (σ.push ⟨[.str x], 1, false⟩).get b = some ⟨strs L, 1, o⟩ := by rw [get_push_lt hbn]; exact hg0
  have h1 : firstA (σ.push ⟨[.str x], 1, false⟩) 1 1 (.sl σ.n 0 1 1) = some [.str x] := by
    simp [firstA, get_push_same, getCells, dropN, takeN]
  have ha : appendA TT (σ.push ⟨[.str x], 1, false⟩) 67 67 (.sl b 0 n n) (.sl σ.n 0 1 1) =
      some (.sl (σ.n + 1) 0 (n + 1) (n + 1), (if o then (σ.push ⟨[.str x], 1, false⟩).del b else σ.push ⟨[.str x], 1, false⟩).push ⟨strs (L ++ [x]), 1, true⟩) := by
    unfold appendA
    simp only [ty67, ty9, lenA, h1, allOne, AV.one, hg, Nat.mul_one, getCells_strs hn, strs_length]
    rw [if_neg (by simp), if_neg (by omega), if_pos ⟨by omega, by omega, trivial, by omega, by omega⟩]
    cases o <;> simp [n_push, strs_append, growE]
  refine ⟨_, ha, ⟨true, ?_, ?_⟩, ?_, ?_⟩
  · cases o <;> exact get_push_same
  · cases o <;> simp [n_push, n_del]
  · cases o <;> rfl
  · intro c hc hcn
    have hd : ∀ τ : St, τ.n = σ.n + 1 → (τ.push ⟨strs (L ++ [x]), 1, true⟩).get c = τ.get c := fun τ h => get_push_lt (by omega)
    cases o
    · simp only [Bool.false_eq_true, if_false]
      rw [hd _ rfl, get_push_lt hcn]
    · simp only [if_true]
      rw [hd _ rfl, get_del_ne (fun e => hc e.symm), get_push_lt hcn]

theorem dp1 {α : Type} {L : List α} {i : Nat} {x : α} {r : List α} (h : L.drop i = x :: r) : i < L.length ∧ L[i]? = some x ∧ L.drop (i + 1) = r := by
  have hl : (L.drop i).length = r.length + 1 := by rw [h]; rfl
  rw [List.length_drop] at hl
  refine ⟨by omega, ?_, ?_⟩
  · have := congrArg (fun l => l[0]?) h
    simpa using this
  · have := congrArg (List.drop 1) h
    simpa [List.drop_drop] using this

noncomputable def b45 : Code := Tryd.f45.body.getD .skip
noncomputable def B45_0 : Code := (bodyC (bodyC (sndC (fstC (sndC (sndC (sndC b45)))))))
noncomputable def K45_0 : List It := .lp B45_0 :: .blk 0 :: .code (sndC (sndC (sndC (sndC b45)))) :: []
theorem xl45_0 {fi : FI} {env : Env} {σ : St} : exI TT fi K45_0 env σ = exI TT fi (.code B45_0 :: K45_0) env σ := by unfold K45_0; exact xI_lp
noncomputable def R45_0_0 : List It := .code (sndC (sndC (sndC (sndC b45)))) :: []
theorem eK45_0_0 : exitA 0 K45_0 = some R45_0_0 := rfl
theorem l45 (sel l : List UInt8) (hl : l.length ≤ 400) (hs : ∀ i, i < l.length → sel[i]? = some 49) : ∀ (suf : List UInt8) (i : Nat) (acc : List UInt8) (σ : St) (r : Nat), l.drop i = suf → i ≤ l.length → acc.length ≤ i → Bld σ 0 r acc →
    ∃ σ', exI TT (FI.of Tryd.f45 (TT.an 45)) K45_0 [(0, .str sel), (1, .str l), (6, .ptr 0 0), (24, .int .i64 l.length), (25, .int .i64 i)] σ = some (.tup [.str (acc ++ suf), .bool true], σ') := by
  intro suf
  induction suf with
  | nil =>
    intro i acc σ r hd hi ha hb
    have : (l.drop i).length = 0 := by rw [hd]; rfl
    rw [List.length_drop] at this
    obtain rfl : i = l.length := by omega
    obtain ⟨σ1, c1, _, _⟩ := c92 hb (by omega)
    refine ⟨σ1, ?_⟩
    rw [List.append_nil]
    generalize l.length = m at *
    rw [fi45]
    rw [xl45_0]
    simp only [B45_0, b45, Tryd.f45, Option.getD, fstC, sndC, bodyC, thnC, elsC]
    simp [xI_seq, xI_region, xI_ret, regA, regOps, runOps, opStep, wantedA, opA, evo, evos, calleeA, lk, nif_eq, putE, paramsE, valS, val2, keepE, restrict, finA, resA, binA, binInt, ofConst, ofConst1, loadA, TK.isAgg, asVar, unA, builtinA, lenOpA, lenA, ileb_cast, ileb_eq, ieqb_dec, indexAddrA, inB_dec, evPairs, storeA, AV.cellsOf, pairsOf, xI_nil, binBool, gcE, evOpt, tagZ, xI_block, xI_loopH, xI_condM, xI_exitM, xI_skip, xI_blk, exitA, ty3, ty4, ty5, ty9, ty117, eK45_0_0]
    simp only [R45_0_0, b45, Tryd.f45, Option.getD, fstC, sndC, bodyC, thnC, elsC]
    simp [xI_seq, xI_region, xI_ret, regA, regOps, runOps, opStep, wantedA, opA, evo, evos, calleeA, lk, nif_eq, putE, paramsE, valS, val2, keepE, restrict, finA, resA, binA, binInt, ofConst, ofConst1, loadA, TK.isAgg, asVar, unA, builtinA, lenOpA, lenA, ileb_cast, ileb_eq, ieqb_dec, indexAddrA, inB_dec, evPairs, storeA, AV.cellsOf, pairsOf, xI_nil, binBool, gcE, evOpt, tagZ, xI_block, xI_loopH, xI_condM, xI_exitM, xI_skip, xI_blk, exitA, ty3, ty4, ty5, ty9, ty117, eK45_0_0, c1]
  | cons x suf ih =>
    intro i acc σ r hd hi ha hb
    obtain ⟨d1, d2, d3⟩ := dp1 hd
    have e1 := hs i d1
    obtain ⟨σ1, r1, c1, hb1, _, _, _⟩ := c91 hb (by omega) x
    obtain ⟨σ', h1⟩ := ih (i + 1) (acc ++ [x]) σ1 r1 d3 d1 (by simp; omega) hb1
    refine ⟨σ', ?_⟩
    rw [show acc ++ x :: suf = acc ++ [x] ++ suf by simp, ← h1, show ((i + 1 : Nat) : Int) = (i : Int) + 1 by omega]
    clear h1 ih hs hd d3
    have hlt : (i : Int) < (l.length : Int) := by omega
    have hnl : ¬ ((l.length : Int) ≤ (i : Int)) := by omega
    have hw : wrapA .i64 ((i : Int) + 1) = (i : Int) + 1 := wrapA_id (by omega) (by omega)
    generalize hm : l.length = m at *
    have hnl2 : ¬ m ≤ i := by omega
    rw [fi45]
    conv => lhs; rw [xl45_0]
    simp only [B45_0, b45, Tryd.f45, Option.getD, fstC, sndC, bodyC, thnC, elsC]
    simp [xI_seq, xI_region, xI_ret, regA, regOps, runOps, opStep, wantedA, opA, evo, evos, calleeA, lk, nif_eq, putE, paramsE, valS, val2, keepE, restrict, finA, resA, binA, binInt, ofConst, ofConst1, loadA, TK.isAgg, asVar, unA, builtinA, lenOpA, lenA, ileb_cast, ileb_eq, ieqb_dec, indexAddrA, inB_dec, evPairs, storeA, AV.cellsOf, pairsOf, xI_nil, binBool, gcE, evOpt, tagZ, xI_block, xI_loopH, xI_condM, xI_exitM, xI_skip, xI_blk, exitA, ty3, ty4, ty5, ty9, ty117, eK45_0_0, indexA, ty9, ty5, hlt, hnl, hnl2, hw, e1, d2, c1, hm]
theorem v45 (l : List UInt8) (hl : l.length ≤ 400) (hb : l.all isBit = true) : FnV TT 45 [.str (List.replicate l.length 49), .str l] (.tup [.str l, .bool true]) := by
  have h1 : isBits l = true := by simp [isBits, hl, hb]
  have h2 : isBits (List.replicate l.length 49) = true := by
    simp only [isBits, List.length_replicate, Bool.and_eq_true]
    exact ⟨decide_eq_true hl, List.all_eq_true.2 fun x hx => by rw [List.eq_of_mem_replicate hx]; rfl⟩
  have c1 := c63 (List.replicate l.length 49) (by rw [List.length_replicate]; omega) ⟨[], 0⟩
  have c2 := c63 l (by omega) ⟨[], 0⟩
  rw [h2] at c1; rw [h1] at c2
  obtain ⟨σ', h⟩ := l45 (List.replicate l.length 49) l hl (fun i hi => by simp [List.getElem?_replicate, hi]) l 0 [] ((⟨[], 0⟩ : St).push ⟨[.nilP, .nilS], tagOf 117 2, false⟩) 0 rfl (Nat.zero_le _) (Nat.le_refl _) (Bld.new ⟨[], 0⟩)
  refine FnV.mk fn45 rfl md45 ⟨σ', ?_⟩ (fun _ => rfl) rfl
  simp only [List.nil_append, show ((0 : Nat) : Int) = 0 from rfl] at h
  rw [← h, fi45]
  have hsl : (List.replicate l.length (49 : UInt8)).length = l.length := List.length_replicate ..
  generalize List.replicate l.length (49 : UInt8) = sel at *
  clear h
  generalize hm : l.length = m at *
  simp [xI_seq, xI_region, xI_ret, regA, regOps, runOps, opStep, wantedA, opA, evo, evos, calleeA, lk, nif_eq, putE, paramsE, valS, val2, keepE, restrict, finA, resA, binA, binInt, ofConst, ofConst1, loadA, TK.isAgg, asVar, unA, builtinA, lenOpA, lenA, ileb_cast, ileb_eq, ieqb_dec, indexAddrA, inB_dec, evPairs, storeA, AV.cellsOf, pairsOf, xI_nil, binBool, gcE, evOpt, tagZ, xI_block, xI_loopH, xI_condM, xI_exitM, xI_skip, xI_blk, exitA, ty3, ty4, ty5, ty9, ty117, eK45_0_0, ty117, ty9, allOne, AV.one, n_push, c1, c2, hm, hsl]
  rfl
/-- A table of n inputs. -/
def Tbl (n : Nat) (l : List UInt8) : Prop := l.length = pw n ∧ n ≤ 4 ∧ l.all isBit = true
theorem pw_4 {n : Nat} (h : n ≤ 4) : pw n ≤ 16 := Nat.pow_le_pow_right (by decide) h
theorem Tbl.is {n : Nat} {l : List UInt8} (h : Tbl n l) : isBits l = true := by
  have := pw_4 h.2.1
  have h1 := h.1
  simp [isBits, h.2.2]; omega

theorem v86 {n : Nat} {l : List UInt8} (h : Tbl n l) : FnV TT 86 [.str l] (.bool true) := by
  have hp := pw_4 h.2.1
  have hp1 := pw_pos n
  have hl := h.1
  have c1 := c63 l (by omega) ⟨[], 0⟩
  rw [h.is] at c1
  have c2 := c69 (pw n : Nat) 1 64 ⟨[], 0⟩
  rw [show inR ((pw n : Nat) : Int) 1 64 = true from inR_iff.2 (by omega)] at c2
  have c3 : wrapA .i64 (((pw n : Nat) : Int) - 1) = ((pw n - 1 : Nat) : Int) := by rw [wrapA_id (by omega) (by omega)]; omega
  have c4 : bitsA .and .i64 ((pw n : Nat) : Int) ((pw n - 1 : Nat) : Int) = some (.int .i64 0) := by
    rw [n_and (by omega) (by omega)]
    have : andN (pw n) (pw n - 1) = 0 := by
      have h4 := h.2.1
      have : n = 0 ∨ n = 1 ∨ n = 2 ∨ n = 3 ∨ n = 4 := by omega
      rcases this with rfl | rfl | rfl | rfl | rfl <;> rfl
    rw [this]; rfl
  have hw : wrapA .i64 ((pw n : Nat) : Int) = ((pw n : Nat) : Int) := wrapA_id (by omega) (by omega)
  refine FnV.mk fn86 rfl md86 ⟨⟨[], 0⟩, ?_⟩ (fun _ => rfl) rfl
  generalize pw n - 1 = q at *
  generalize pw n = P at *
  rw [fi86]
  simp [xI_seq, xI_region, xI_ret, regA, regOps, runOps, opStep, wantedA, opA, evo, evos, calleeA, lk, nif_eq, putE, paramsE, valS, val2, keepE, restrict, finA, resA, binA, binInt, ofConst, ofConst1, loadA, TK.isAgg, asVar, unA, builtinA, lenOpA, lenA, ileb_cast, ileb_eq, ieqb_dec, indexAddrA, inB_dec, evPairs, storeA, AV.cellsOf, pairsOf, xI_nil, binBool, gcE, evOpt, tagZ, xI_block, xI_loopH, xI_condM, xI_exitM, xI_skip, xI_blk, exitA, ty3, ty9, ty9, ty2, convA, hl, c1, c2, c3, c4, hw]

theorem v87 {n : Nat} {l : List UInt8} (h : Tbl n l) : FnV TT 87 [.str l] (.int .i64 n) := by
  have hp := pw_4 h.2.1
  have hl := h.1
  have c1 := v84 n (by have := h.2.1; omega) ⟨[], 0⟩ [.int .i64 (pw n : Nat)] rfl
  have hw : wrapA .i64 ((pw n : Nat) : Int) = ((pw n : Nat) : Int) := wrapA_id (by omega) (by omega)
  have hw2 : wrapA .i64 (n : Int) = (n : Int) := wrapA_id (by omega) (by have := h.2.1; omega)
  refine FnV.mk fn87 rfl md87 ⟨⟨[], 0⟩, ?_⟩ (fun _ => rfl) rfl
  generalize pw n = P at *
  rw [fi87]
  simp [xI_seq, xI_region, xI_ret, regA, regOps, runOps, opStep, wantedA, opA, evo, evos, calleeA, lk, nif_eq, putE, paramsE, valS, val2, keepE, restrict, finA, resA, binA, binInt, ofConst, ofConst1, loadA, TK.isAgg, asVar, unA, builtinA, lenOpA, lenA, ileb_cast, ileb_eq, ieqb_dec, indexAddrA, inB_dec, evPairs, storeA, AV.cellsOf, pairsOf, xI_nil, binBool, gcE, evOpt, tagZ, xI_block, xI_loopH, xI_condM, xI_exitM, xI_skip, xI_blk, exitA, ty9, ty9, ty2, convA, hl, c1, hw, hw2]

theorem v41 {n : Nat} {l : List UInt8} (h : Tbl n l) : FnV TT 41 [.str l] (.tup [.int .i64 n, .bool true]) := by
  have c1 := v86 h ⟨[], 0⟩ [.str l] rfl
  have c2 := v87 h ⟨[], 0⟩ [.str l] rfl
  refine FnV.mk fn41 rfl md41 ⟨⟨[], 0⟩, ?_⟩ (fun _ => rfl) rfl
  rw [fi41]
  simp [xI_seq, xI_region, xI_ret, regA, regOps, runOps, opStep, wantedA, opA, evo, evos, calleeA, lk, nif_eq, putE, paramsE, valS, val2, keepE, restrict, finA, resA, binA, binInt, ofConst, ofConst1, loadA, TK.isAgg, asVar, unA, builtinA, lenOpA, lenA, ileb_cast, ileb_eq, ieqb_dec, indexAddrA, inB_dec, evPairs, storeA, AV.cellsOf, pairsOf, xI_nil, binBool, gcE, evOpt, tagZ, xI_block, xI_loopH, xI_condM, xI_exitM, xI_skip, xI_blk, exitA, ty4, c1, c2]

noncomputable def b85 : Code := Tryd.f85.body.getD .skip
noncomputable def B85_0 : Code := (bodyC (bodyC (sndC (fstC (sndC (sndC (sndC (sndC b85))))))))
noncomputable def K85_0 : List It := .lp B85_0 :: .blk 0 :: .code (sndC (sndC (sndC (sndC (sndC b85))))) :: []
theorem xl85_0 {fi : FI} {env : Env} {σ : St} : exI TT fi K85_0 env σ = exI TT fi (.code B85_0 :: K85_0) env σ := by unfold K85_0; exact xI_lp
noncomputable def R85_0_0 : List It := .code (sndC (sndC (sndC (sndC (sndC b85))))) :: []
theorem eK85_0_0 : exitA 0 K85_0 = some R85_0_0 := rfl
set_option maxHeartbeats 2000000 in
theorem l85 (c : List Nat) (hc : ∀ x ∈ c, x < 256) (hcl : c.length ≤ 1000) (s n kind a : Nat) (hn : n ≤ 4) (hk3 : kind < 3) (ha : a < pw n) : ∀ (m x k mm : Nat) (σ : St) (b : Nat) (l : List UInt8), x + m = pw n → l.length = x → k + 4 * m ≤ 900000 → SRC σ s c k mm → s ≠ b → BRow σ b l → l.all isBit = true →
    ∃ (σ' : St) (l' : List UInt8), exI TT (FI.of Tryd.f85 (TT.an 85)) K85_0 [(0, .ptr s 0), (1, .int .i64 n), (5, .sl b 0 x x), (6, .int .i64 kind), (7, .int .i64 a), (8, .int .i64 x)] σ = some (.str l', σ') ∧ l'.length = pw n ∧ l'.all isBit = true := by
  have hp := pw_4 hn
  have s1 := sh_1 (b := n) (by omega)
  have s2 : wrapA .u64 (n : Int) = (n : Int) := n_wrapu (by omega)
  intro m
  induction m with
  | zero =>
    intro x k mm σ b l hx hl hk hS hsb hr hb
    obtain rfl : x = pw n := by omega
    have hs := toStr hr hl.symm
    refine ⟨σ, l, ?_, hl, hb⟩
    generalize pw n = P at *
    rw [fi85]
    rw [xl85_0]
    simp only [B85_0, b85, Tryd.f85, Option.getD, fstC, sndC, bodyC, thnC, elsC]
    simp [xI_seq, xI_region, xI_ret, regA, regOps, runOps, opStep, wantedA, opA, evo, evos, calleeA, lk, nif_eq, putE, paramsE, valS, val2, keepE, restrict, finA, resA, binA, binInt, ofConst, ofConst1, loadA, TK.isAgg, asVar, unA, builtinA, lenOpA, lenA, ileb_cast, ileb_eq, ieqb_dec, indexAddrA, inB_dec, evPairs, storeA, AV.cellsOf, pairsOf, xI_nil, binBool, gcE, evOpt, tagZ, xI_block, xI_loopH, xI_condM, xI_exitM, xI_skip, xI_blk, exitA, ty2, ty5, ty9, ty32, ty36, eK85_0_0, runTr, pairsOk, pairOk, lstAt, lastOf, sameVal, AV.eqv, eqvs, eqvs_ints, regOps, blt_dec, cond_true, cond_false, fieldAddrA, allOne, AV.one, buildA, sizesOf, fillA, putCells, n_push, indexA, ty2, ty27, ty9, ty5, ty3, ty36, convA, s1, s2]
    simp only [R85_0_0, b85, Tryd.f85, Option.getD, fstC, sndC, bodyC, thnC, elsC]
    simp [xI_seq, xI_region, xI_ret, regA, regOps, runOps, opStep, wantedA, opA, evo, evos, calleeA, lk, nif_eq, putE, paramsE, valS, val2, keepE, restrict, finA, resA, binA, binInt, ofConst, ofConst1, loadA, TK.isAgg, asVar, unA, builtinA, lenOpA, lenA, ileb_cast, ileb_eq, ieqb_dec, indexAddrA, inB_dec, evPairs, storeA, AV.cellsOf, pairsOf, xI_nil, binBool, gcE, evOpt, tagZ, xI_block, xI_loopH, xI_condM, xI_exitM, xI_skip, xI_blk, exitA, ty2, ty5, ty9, ty32, ty36, eK85_0_0, hs]
  | succ m ih =>
    intro x k mm σ b l hx hl hk hS hsb hr hb
    have hlt : (x : Int) < ((pw n : Nat) : Int) := by omega
    have hnl : ¬ ((pw n : Nat) : Int) ≤ (x : Int) := by omega
    have hnl2 : ¬ pw n ≤ x := by omega
    have hlt2 : x < pw n := by omega
    have hw : wrapA .i64 ((x : Int) + 1) = (x : Int) + 1 := wrapA_id (by omega) (by omega)
    have s3 := n_and (a := a) (b := x) (by omega) (by omega)
    have hax : andN a x < 2 ^ 63 := Nat.lt_of_le_of_lt Nat.and_le_left (by omega)
    have c0 := v112 (andN a x) hax σ [.int .i64 (andN a x : Nat)] rfl
    have hp2 : par (andN a x) < 2 := par_lt _
    generalize hA : andN a x = A at *
    generalize hq : par A = q at *
    have key : ∀ (r : Nat) (σ2 : St) (k2 m2 : Nat), r < 2 → SRC σ2 s c k2 m2 → k2 ≤ k + 4 → σ2.n = σ.n → (∀ d, d ≠ s → σ2.get d = σ.get d) → ∃ (σ3 : St), appendA TT (σ2.push ⟨[.int .u8 (bb r).toNat], 1, false⟩) 32 32 (.sl b 0 x x) (.sl σ2.n 0 1 1) = some (.sl (σ2.n + 1) 0 (x + 1) (x + 1), σ3) ∧ ∃ (σ' : St) (l' : List UInt8), exI TT (FI.of Tryd.f85 (TT.an 85)) K85_0 [(0, .ptr s 0), (1, .int .i64 n), (5, .sl (σ2.n + 1) 0 (x + 1) (x + 1)), (6, .int .i64 kind), (7, .int .i64 a), (8, .int .i64 ((x : Int) + 1))] σ3 = some (.str l', σ') ∧ l'.length = pw n ∧ l'.all isBit = true := by
      intro r σ2 k2 m2 hr2 S2 hk2 n2 u2
      have hrow : BRow σ2 b l := hr.keep (Nat.le_of_eq n2.symm) (u2 b (fun e => hsb e.symm))
      obtain ⟨σ3, a3, r3, n3, _, u3⟩ := bappend (x := bb r) (n := x) ty32 ty5 hrow hl.symm (by omega)
      have hs2 := S2.1
      have S3 := S2.keep (σ' := σ3) (by omega) (u3 s hsb (by omega))
      refine ⟨σ3, a3, ?_⟩
      have := ih (x + 1) k2 m2 σ3 (σ2.n + 1) (l ++ [bb r]) (by omega) (by simp; omega) (by omega) S3 (by omega) r3 (by simp [hb, bb_isBit hr2])
      rw [show ((x + 1 : Nat) : Int) = (x : Int) + 1 by omega] at this
      exact this
    have bc2 : ∀ r : Nat, r < 2 → wrapA .i64 (48 + (r : Int)) = 48 + (r : Int) := fun r h => bb_wrap h
    have bc3 : ∀ (r : Nat) (σ : St), r < 2 → convA TT σ 2 5 (.int .i64 (48 + (r : Int))) = some (.int .u8 ((bb r).toNat : Nat), σ) := fun r σ h => bb_conv h σ
    have convU : ∀ σ, convA TT σ 2 36 (.int .i64 (n : Int)) = some (.int .u64 (n : Int), σ) := fun σ => by simp [convA, ty2, ty36, s2]
    clear ih hr
    have hkind : kind = 0 ∨ kind = 1 ∨ kind = 2 := by omega
    rcases hkind with rfl | rfl | rfl
    · obtain ⟨r, k2, m2, σ2, c2, hr2, S2, hk2, n2, u2⟩ := c66 c hc hcl k mm (by omega) 2 (by decide) σ s hS
      replace hr2 : r < 2 := by omega
      obtain ⟨σ3, a3, σ', l', h1, h2, h3⟩ := key r σ2 k2 m2 hr2 S2 (by omega) n2 u2
      refine ⟨σ', l', ?_, h2, h3⟩
      rw [← h1]
      have d2 := bc2 r hr2
      have d3 := fun σ => bc3 r σ hr2
      simp only [show ((2 : Nat) : Int) = 2 from rfl] at c2
      clear h1 key bc2 bc3
      generalize pw n = P at *
      rw [fi85]
      conv => lhs; rw [xl85_0]
      simp only [B85_0, b85, Tryd.f85, Option.getD, fstC, sndC, bodyC, thnC, elsC]
      simp [xI_seq, xI_region, xI_ret, regA, regOps, runOps, opStep, wantedA, opA, evo, evos, calleeA, lk, nif_eq, putE, paramsE, valS, val2, keepE, restrict, finA, resA, binA, binInt, ofConst, ofConst1, loadA, TK.isAgg, asVar, unA, builtinA, lenOpA, lenA, ileb_cast, ileb_eq, ieqb_dec, indexAddrA, inB_dec, evPairs, storeA, AV.cellsOf, pairsOf, xI_nil, binBool, gcE, evOpt, tagZ, xI_block, xI_loopH, xI_condM, xI_exitM, xI_skip, xI_blk, exitA, ty2, ty5, ty9, ty32, ty36, eK85_0_0, runTr, pairsOk, pairOk, lstAt, lastOf, sameVal, AV.eqv, eqvs, eqvs_ints, regOps, blt_dec, cond_true, cond_false, allOne, AV.one, n_push, ty2, ty36, convU, s1, s3, c0, c2, d2, d3, bb1, a3, hlt, hnl, hnl2, hlt2, hw]
    · obtain ⟨z, k2, m2, σ2, c2, S2, hk2, n2, u2⟩ := c67 c hc hcl k mm (by omega) 6 (by decide) σ s hS
      simp only [show ((6 : Nat) : Int) = 6 from rfl] at c2
      cases z with
      | false =>
        obtain ⟨σ3, a3, σ', l', h1, h2, h3⟩ := key q σ2 k2 m2 hp2 S2 (by omega) n2 u2
        refine ⟨σ', l', ?_, h2, h3⟩
        rw [← h1]
        have d2 := bc2 q hp2
        have d3 := fun σ => bc3 q σ hp2
        clear h1 key bc2 bc3
        generalize pw n = P at *
        rw [fi85]
        conv => lhs; rw [xl85_0]
        simp only [B85_0, b85, Tryd.f85, Option.getD, fstC, sndC, bodyC, thnC, elsC]
        simp [xI_seq, xI_region, xI_ret, regA, regOps, runOps, opStep, wantedA, opA, evo, evos, calleeA, lk, nif_eq, putE, paramsE, valS, val2, keepE, restrict, finA, resA, binA, binInt, ofConst, ofConst1, loadA, TK.isAgg, asVar, unA, builtinA, lenOpA, lenA, ileb_cast, ileb_eq, ieqb_dec, indexAddrA, inB_dec, evPairs, storeA, AV.cellsOf, pairsOf, xI_nil, binBool, gcE, evOpt, tagZ, xI_block, xI_loopH, xI_condM, xI_exitM, xI_skip, xI_blk, exitA, ty2, ty5, ty9, ty32, ty36, eK85_0_0, runTr, pairsOk, pairOk, lstAt, lastOf, sameVal, AV.eqv, eqvs, eqvs_ints, regOps, blt_dec, cond_true, cond_false, allOne, AV.one, n_push, ty2, ty36, convU, s1, s3, c0, c2, d2, d3, bb1, a3, hlt, hnl, hnl2, hlt2, hw]
      | true =>
        obtain ⟨σ3, a3, σ', l', h1, h2, h3⟩ := key (1 - q) σ2 k2 m2 (by omega) S2 (by omega) n2 u2
        refine ⟨σ', l', ?_, h2, h3⟩
        rw [← h1]
        have d2 := bc2 (1 - q) (by omega)
        have d3 := fun σ => bc3 (1 - q) σ (by omega)
        have d4 : wrapA .i64 (1 - (q : Int)) = ((1 - q : Nat) : Int) := by rw [wrapA_id (by omega) (by omega)]; omega
        clear h1 key bc2 bc3
        generalize 1 - q = q2 at *
        generalize pw n = P at *
        rw [fi85]
        conv => lhs; rw [xl85_0]
        simp only [B85_0, b85, Tryd.f85, Option.getD, fstC, sndC, bodyC, thnC, elsC]
        simp [xI_seq, xI_region, xI_ret, regA, regOps, runOps, opStep, wantedA, opA, evo, evos, calleeA, lk, nif_eq, putE, paramsE, valS, val2, keepE, restrict, finA, resA, binA, binInt, ofConst, ofConst1, loadA, TK.isAgg, asVar, unA, builtinA, lenOpA, lenA, ileb_cast, ileb_eq, ieqb_dec, indexAddrA, inB_dec, evPairs, storeA, AV.cellsOf, pairsOf, xI_nil, binBool, gcE, evOpt, tagZ, xI_block, xI_loopH, xI_condM, xI_exitM, xI_skip, xI_blk, exitA, ty2, ty5, ty9, ty32, ty36, eK85_0_0, runTr, pairsOk, pairOk, lstAt, lastOf, sameVal, AV.eqv, eqvs, eqvs_ints, regOps, blt_dec, cond_true, cond_false, allOne, AV.one, n_push, ty2, ty36, convU, s1, s3, c0, c2, d2, d3, d4, bb1, a3, hlt, hnl, hnl2, hlt2, hw]
    · obtain ⟨σ3, a3, σ', l', h1, h2, h3⟩ := key q σ k mm hp2 hS (by omega) rfl (fun _ _ => rfl)
      refine ⟨σ', l', ?_, h2, h3⟩
      rw [← h1]
      have d2 := bc2 q hp2
      have d3 := fun σ => bc3 q σ hp2
      clear h1 key bc2 bc3
      generalize pw n = P at *
      rw [fi85]
      conv => lhs; rw [xl85_0]
      simp only [B85_0, b85, Tryd.f85, Option.getD, fstC, sndC, bodyC, thnC, elsC]
      simp [xI_seq, xI_region, xI_ret, regA, regOps, runOps, opStep, wantedA, opA, evo, evos, calleeA, lk, nif_eq, putE, paramsE, valS, val2, keepE, restrict, finA, resA, binA, binInt, ofConst, ofConst1, loadA, TK.isAgg, asVar, unA, builtinA, lenOpA, lenA, ileb_cast, ileb_eq, ieqb_dec, indexAddrA, inB_dec, evPairs, storeA, AV.cellsOf, pairsOf, xI_nil, binBool, gcE, evOpt, tagZ, xI_block, xI_loopH, xI_condM, xI_exitM, xI_skip, xI_blk, exitA, ty2, ty5, ty9, ty32, ty36, eK85_0_0, runTr, pairsOk, pairOk, lstAt, lastOf, sameVal, AV.eqv, eqvs, eqvs_ints, regOps, blt_dec, cond_true, cond_false, allOne, AV.one, n_push, ty2, ty36, convU, s1, s3, c0, d2, d3, bb1, a3, hlt, hnl, hnl2, hlt2, hw]
theorem c85 (c : List Nat) (hc : ∀ x ∈ c, x < 256) (hcl : c.length ≤ 1000) (n : Nat) (hn : n ≤ 4) (k m : Nat) (hk : k ≤ 1000) (σ : St) (s : Nat) (hS : SRC σ s c k m) : ∃ (l : List UInt8) (σ' : St), callI TT 85 [.ptr s 0, .int .i64 n] σ = some (.str l, σ') ∧ Tbl n l := by
  have hp := pw_4 hn
  have hp1 := pw_pos n
  have hs0 := hS.1
  have S0 : SRC (σ.push ⟨intsOf [], 1, false⟩) s c k m := hS.keep (by simp [n_push]) (get_push_lt hs0)
  obtain ⟨kind, k1, m1, σ1, c1, h1, S1, hk1, n1, u1⟩ := c66 c hc hcl k m (by omega) 3 (by decide) (σ.push ⟨intsOf [], 1, false⟩) s S0
  replace h1 : kind < 3 := by omega
  obtain ⟨a, k2, m2, σ2, c2, h2, S2, hk2, n2, u2⟩ := c66 c hc hcl k1 m1 (by omega) (pw n) (by omega) σ1 s S1
  replace h2 : a < pw n := by omega
  have hrow : BRow σ2 σ.n [] := (BRow.push σ []).keep (by omega) ((u2 _ (by omega)).trans (u1 _ (by omega)))
  obtain ⟨σ', l', e1, e2, e3⟩ := l85 c hc hcl s n kind a hn h1 h2 (pw n) 0 k2 m2 σ2 σ.n [] (by omega) rfl (by omega) S2 (by omega) hrow rfl
  refine ⟨l', σ', ?_, e2, hn, e3⟩
  have s1 := sh_1 (b := n) (by omega)
  have s2 : wrapA .u64 (n : Int) = (n : Int) := n_wrapu (by omega)
  have convU : ∀ σ, convA TT σ 2 36 (.int .i64 (n : Int)) = some (.int .u64 (n : Int), σ) := fun σ => by simp [convA, ty2, ty36, s2]
  simp only [show ((3 : Nat) : Int) = 3 from rfl] at c1
  rw [cI_0 fn85 rfl md85]
  simp only [show ((0 : Nat) : Int) = 0 from rfl] at e1
  rw [← e1, fi85]
  clear e1
  generalize pw n = P at *
  simp [xI_seq, xI_region, xI_ret, regA, regOps, runOps, opStep, wantedA, opA, evo, evos, calleeA, lk, nif_eq, putE, paramsE, valS, val2, keepE, restrict, finA, resA, binA, binInt, ofConst, ofConst1, loadA, TK.isAgg, asVar, unA, builtinA, lenOpA, lenA, ileb_cast, ileb_eq, ieqb_dec, indexAddrA, inB_dec, evPairs, storeA, AV.cellsOf, pairsOf, xI_nil, binBool, gcE, evOpt, tagZ, xI_block, xI_loopH, xI_condM, xI_exitM, xI_skip, xI_blk, exitA, ty2, ty5, ty9, ty32, ty36, eK85_0_0, runTr, pairsOk, pairOk, lstAt, lastOf, sameVal, AV.eqv, eqvs, eqvs_ints, regOps, blt_dec, cond_true, cond_false, ty2, ty36, convU, s1, c1, c2, bb0]
  rfl

theorem v40 (c : List Nat) (hc : ∀ x ∈ c, x < 256) (hcl : c.length ≤ 1000) : ∃ (n : Nat) (l : List UInt8), Tbl n l ∧ FnV TT 40 [.lst c.length (byts c)] (.str l) := by
  obtain ⟨σ1, c1, S1, n1, o1⟩ := c65 c ⟨[], 0⟩
  obtain ⟨n, k2, m2, σ2, c2, hn, S2, hk2, n2, u2⟩ := c66 c hc hcl 0 0 (by decide) 5 (by decide) σ1 0 S1
  replace hn : n ≤ 4 := by omega
  obtain ⟨l, σ3, c3, h3⟩ := c85 c hc hcl n hn k2 m2 (by omega) σ2 0 S2
  refine ⟨n, l, h3, FnV.mk fn40 rfl md40 ⟨σ3, ?_⟩ (fun _ => rfl) rfl⟩
  simp only [show ((5 : Nat) : Int) = 5 from rfl] at c2
  rw [fi40]
  simp [xI_seq, xI_region, xI_ret, regA, regOps, runOps, opStep, wantedA, opA, evo, evos, calleeA, lk, nif_eq, putE, paramsE, valS, val2, keepE, restrict, finA, resA, binA, binInt, ofConst, ofConst1, loadA, TK.isAgg, asVar, unA, builtinA, lenOpA, lenA, ileb_cast, ileb_eq, ieqb_dec, indexAddrA, inB_dec, evPairs, storeA, AV.cellsOf, pairsOf, xI_nil, binBool, gcE, evOpt, tagZ, xI_block, xI_loopH, xI_condM, xI_exitM, xI_skip, xI_blk, exitA, c1, c2, c3]

end Go.Proofs.YthkdbkjkccogfaaDoor
