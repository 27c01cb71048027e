/- Contracts: the states that agree with most bits. Nothing is claimed here; no condition. -/
import Derived.Test.YthkdbkjkccogfaaDoorGd
namespace Go.Proofs.YthkdbkjkccogfaaDoor
open Go Go.Abs
set_option linter.unusedSimpArgs false
set_option linter.unusedVariables false
open Go.Wd
theorem endR_succ (w t : Nat) : ∀ i n : Nat, endR w t (i + 1) n = rnext w t (endR w t i n)
  | 0, n => rfl
  | i + 1, n => by rw [endR, endR_succ w t i (rnext w t n)]; rfl
theorem endR_lt {w t n : Nat} (hn : n < 2 ^ w) : ∀ i : Nat, endR w t i n < 2 ^ w
  | 0 => hn
  | i + 1 => by rw [endR_succ]; exact rnext_lt (endR_lt hn i)
theorem outR_get (w t : Nat) : ∀ (m n i : Nat), i < m → (outR w t m n)[i]? = some (bb (rbit w (endR w t i n)))
  | 0, n, i, h => by omega
  | m + 1, n, 0, _ => rfl
  | m + 1, n, i + 1, h => by
    rw [outR, List.getElem?_cons_succ, outR_get w t m (rnext w t n) i (by omega)]; rfl
/-- At how many of the first places the bits of a register agree with bits. -/
def agC (w t s : Nat) (l : List UInt8) : Nat → Nat
  | 0 => 0
  | i + 1 => agC w t s l i + (if l[i]? = some (bb (rbit w (endR w t i s))) then 1 else 0)
theorem agC_le (w t s : Nat) (l : List UInt8) : ∀ i, agC w t s l i ≤ i
  | 0 => Nat.le_refl _
  | i + 1 => by
    have := agC_le w t s l i
    rw [agC]; split <;> omega
def bst (L : List Int) (most : Int) (s a : Nat) : List Int × Int := if most < (a : Int) then ([(s : Int)], (a : Int)) else if most = (a : Int) then (L ++ [(s : Int)], most) else (L, most)
/-- The states that agree with most bits, of the first ones. -/
def bestR (w t : Nat) (l : List UInt8) : Nat → List Int × Int
  | 0 => ([], -1)
  | k + 1 => bst (bestR w t l k).1 (bestR w t l k).2 k (agC w t k l l.length)
theorem bestR_len (w t : Nat) (l : List UInt8) : ∀ k, (bestR w t l k).1.length ≤ k ∧ -1 ≤ (bestR w t l k).2 ∧ (bestR w t l k).2 ≤ l.length
  | 0 => ⟨Nat.le_refl _, by simp [bestR], by simp [bestR]⟩
  | k + 1 => by
    obtain ⟨h1, h2, h3⟩ := bestR_len w t l k
    have h4 := agC_le w t k l l.length
    rw [bestR, bst]
    split
    · exact ⟨by simp, by simp only; omega, by simp only; omega⟩
    · split
      · exact ⟨by simp; omega, h2, h3⟩
      · exact ⟨by simp only; omega, h2, h3⟩
theorem bb_eq {r : Nat} (h : r < 2) {x : UInt8} : bb r = x ↔ ((x.toNat : Int) = ((48 + r : Nat) : Int)) := by
  have := bb_nat h
  constructor
  · rintro rfl; omega
  · intro e; exact UInt8.toNat_inj.1 (by omega)
theorem get_d {l : List UInt8} {i : Nat} (h : i < l.length) : l[i]? = some (l.getD i 0) := by simp [List.getD_eq_getElem?_getD, h]
theorem isBit_at {l : List UInt8} (h : l.all isBit = true) {i : Nat} {x : UInt8} (hx : l[i]? = some x) : x.toNat = 48 ∨ x.toNat = 49 := by
  have := List.all_eq_true.1 h x (List.mem_of_getElem? hx)
  rw [isBit_nat] at this
  simpa using this
theorem get_at {l : List UInt8} {i : Nat} (h : i < l.length) : ∃ x, l[i]? = some x := ⟨_, List.getElem?_eq_getElem h⟩
/-- A function that hands over a row of numbers, a number, and whether there are any. -/
def prR (r : Option (List Int × Int)) (σ : St) (o : Bool) : AV × St :=
  match r with
  | some (l, m) => (.tup [.sl σ.n 0 l.length l.length, .int .i64 m, .bool true], σ.push ⟨ints l, 1, o⟩)
  | none => (.tup [.nilS, .int .i64 0, .bool false], σ)
def FnP (T : Tab) (f : FuncId) (args' : List AV) (r : Option (List Int × Int)) : Prop := ∀ (σ : St) (args : List AV), mapO (frzV σ frzDepth) args = some args' → ∃ o, callI T f args σ = some (prR r σ o)
theorem FnP.mkS {T : Tab} {f : FuncId} {F : Func} {c : Code} {args' : List AV} {l : List Int} {m : Int} (hF : T.fn f = Option.some F) (hB : F.body = Option.some c) (hm : (T.an f).mode = 2)
    (hx : ∃ σ1 b o, exI T (FI.of F (T.an f)) [.code c] (paramsE 0 args') ⟨[], 0⟩ = Option.some (.tup [.sl b 0 l.length l.length, .int .i64 m, .bool true], σ1) ∧ σ1.get b = Option.some ⟨ints l, 1, o⟩) : FnP T f args' (Option.some (l, m)) := by
  intro σ args ha
  obtain ⟨σ1, b, o, hx, hb⟩ := hx
  refine ⟨o, cI_2 hF hB hm ha hx ?_⟩
  unfold ownR
  simp only [ownL, ownDepth, own1_ints (d := 4) (used := []) hb rfl]
  rfl
theorem FnP.mkN {T : Tab} {f : FuncId} {F : Func} {c : Code} {args' : List AV} (hF : T.fn f = Option.some F) (hB : F.body = Option.some c) (hm : (T.an f).mode = 2)
    (hx : ∃ σ1, exI T (FI.of F (T.an f)) [.code c] (paramsE 0 args') ⟨[], 0⟩ = Option.some (.tup [.nilS, .int .i64 0, .bool false], σ1)) : FnP T f args' Option.none := by
  intro σ args ha
  obtain ⟨σ1, hx⟩ := hx
  exact ⟨false, cI_2 hF hB hm ha hx rfl⟩
theorem bsI1 (σ : St) (x : Int) : buildSliceA TT σ 24 1 [(0, .int .i64 x)] = some (.sl σ.n 0 1 1, σ.push ⟨[.int .i64 x], 1, false⟩) := build_one ty24 ty2
theorem bsI0 (σ : St) : buildSliceA TT σ 24 0 [] = some (.sl σ.n 0 0 0, σ.push ⟨ints [], 1, false⟩) := build_nil ty24 ty2
theorem appN (σ : St) (x : Int) : appendA TT (σ.push ⟨[.int .i64 x], 1, false⟩) 24 24 .nilS (.sl σ.n 0 1 1) = some (.sl (σ.n + 1) 0 1 1, (σ.push ⟨[.int .i64 x], 1, false⟩).push ⟨ints [x], 1, true⟩) := by
  simp [appendA, ty24, ty2, lenA, firstA, get_push_same, getCells, dropN, takeN, allOne, AV.one, newE, n_push, ints]
/-- Valid arguments. -/
def bsOk (w t : Int) (l : List UInt8) : Bool := vreg w t && (decide (w ≤ 10) && isBits l)
def bsR (w t : Int) (l : List UInt8) : Option (List Int × Int) := if bsOk w t l = true then some (bestR w.toNat t.toNat l (2 ^ w.toNat)) else none

noncomputable def b14 : Code := Tryd.f14.body.getD .skip
noncomputable def B14_0 : Code := (bodyC (bodyC (sndC (fstC (sndC (sndC (sndC b14)))))))
noncomputable def K14_0 : List It := .lp B14_0 :: .blk 0 :: .code (sndC (sndC (sndC (sndC b14)))) :: []
theorem xl14_0 {fi : FI} {env : Env} {σ : St} : exI TT fi K14_0 env σ = exI TT fi (.code B14_0 :: K14_0) env σ := by unfold K14_0; exact xI_lp
noncomputable def R14_0_0 : List It := .code (sndC (sndC (sndC (sndC b14)))) :: []
theorem eK14_0_0 : exitA 0 K14_0 = some R14_0_0 := rfl
noncomputable def B14_1 : Code := (bodyC (bodyC (sndC (fstC (sndC (sndC (sndC (bodyC (fstC (sndC (sndC (bodyC (bodyC (sndC (fstC (sndC (sndC (sndC b14))))))))))))))))))
noncomputable def K14_1 : List It := .lp B14_1 :: .blk 2 :: .code (sndC (sndC (sndC (sndC (bodyC (fstC (sndC (sndC (bodyC (bodyC (sndC (fstC (sndC (sndC (sndC b14))))))))))))))) :: .blk 1 :: .code (sndC (sndC (sndC (bodyC (bodyC (sndC (fstC (sndC (sndC (sndC b14)))))))))) :: K14_0
theorem xl14_1 {fi : FI} {env : Env} {σ : St} : exI TT fi K14_1 env σ = exI TT fi (.code B14_1 :: K14_1) env σ := by unfold K14_1; exact xI_lp
noncomputable def R14_1_2 : List It := .code (sndC (sndC (sndC (sndC (bodyC (fstC (sndC (sndC (bodyC (bodyC (sndC (fstC (sndC (sndC (sndC b14))))))))))))))) :: .blk 1 :: .code (sndC (sndC (sndC (bodyC (bodyC (sndC (fstC (sndC (sndC (sndC b14)))))))))) :: K14_0
theorem eK14_1_2 : exitA 2 K14_1 = some R14_1_2 := rfl
noncomputable def R14_1_1 : List It := .code (sndC (sndC (sndC (bodyC (bodyC (sndC (fstC (sndC (sndC (sndC b14)))))))))) :: K14_0
theorem eK14_1_1 : exitA 1 K14_1 = some R14_1_1 := rfl
theorem eK14_1_0 : exitA 0 K14_1 = some R14_0_0 := rfl
set_option maxHeartbeats 4000000 in
theorem i14 (w t s : Nat) (N : Int) (l : List UInt8) (hl : l.length ≤ 400) (o : AV) (most : Int) (σ : St) : ∀ m i : Nat, i + m = l.length →
    exI TT (FI.of Tryd.f14 (TT.an 14)) K14_1 [(1, .str l), (2, .ptr 0 0), (7, o), (8, .int .i64 most), (9, .int .i64 s), (10, .int .i64 (agC w t s l i : Nat)), (11, .str (outR w t l.length s)), (30, .int .i64 N), (31, .int .i64 s), (43, .int .i64 l.length), (44, .int .i64 i)] σ = exI TT (FI.of Tryd.f14 (TT.an 14)) K14_1 [(1, .str l), (2, .ptr 0 0), (7, o), (8, .int .i64 most), (9, .int .i64 s), (10, .int .i64 (agC w t s l l.length : Nat)), (11, .str (outR w t l.length s)), (30, .int .i64 N), (31, .int .i64 s), (43, .int .i64 l.length), (44, .int .i64 l.length)] σ := by
  intro m
  induction m with
  | zero =>
    intro i hi
    obtain rfl : i = l.length := by omega
    rfl
  | succ m ih =>
    intro i hi
    have h1 := ih (i + 1) (by omega)
    have hi1 : ((i + 1 : Nat) : Int) = (i : Int) + 1 := by omega
    have hil : i < l.length := by omega
    have q1 := outR_get w t l.length s i hil
    obtain ⟨x, q2⟩ := get_at hil
    have hlt : (i : Int) < (l.length : Int) := by omega
    have hnle : ¬ l.length ≤ i := by omega
    have hw := wrapS (n := i) (by omega)
    have hag := agC_le w t s l i
    have hwa := wrapS (n := agC w t s l i) (by omega)
    rw [← h1]
    by_cases hb : bb (rbit w (endR w t i s)) = x
    · have hst : agC w t s l (i + 1) = agC w t s l i + 1 := by rw [agC, if_pos (by rw [q2, hb])]
      have hst1 : ((agC w t s l (i + 1) : Nat) : Int) = ((agC w t s l i : Nat) : Int) + 1 := by rw [hst]; omega
      have hbt : ((bb (rbit w (endR w t i s))).toNat : Int) = (x.toNat : Int) := by rw [hb]
      have hbn : (bb (rbit w (endR w t i s))).toNat = x.toNat := by rw [hb]
      rw [hi1, hst1]
      generalize agC w t s l i = z at *
      conv => lhs; rw [fi14, xl14_1]; simp only [B14_1, b14, Tryd.f14, Option.getD, fstC, sndC, bodyC, thnC, elsC]
      rw [fi14]
      simp [xI_seq, xI_region, xI_ret, regA, regOps, runOps, opStep, wantedA, opA, evo, evos, calleeA, lk, nif_eq, putE, paramsE, valS, val2, keepE, restrict, finA, resA, binA, binInt, ofConst, ofConst1, loadA, TK.isAgg, asVar, unA, builtinA, lenOpA, lenA, ileb_cast, ileb_eq, ieqb_dec, indexAddrA, inB_dec, evPairs, storeA, AV.cellsOf, pairsOf, xI_nil, binBool, gcE, evOpt, tagZ, xI_block, xI_loopH, xI_condM, xI_exitM, xI_skip, xI_blk, exitA, ty2, ty3, ty4, ty5, ty9, ty24, ty27, eK14_0_0, eK14_1_2, eK14_1_1, eK14_1_0, runTr, pairsOk, pairOk, lstAt, lastOf, sameVal, AV.eqv, eqvs, eqvs_ints, regOps, blt_dec, cond_true, cond_false, fieldAddrA, ty2, ty27, ty9, indexA, q1, q2, hlt, hnle, hw, hwa, hbt, hbn]
    · have hst : agC w t s l (i + 1) = agC w t s l i := by rw [agC, if_neg (by rw [q2]; intro e; cases e; exact hb rfl)]; rfl
      have hbn : ¬ (bb (rbit w (endR w t i s))).toNat = x.toNat := fun e => hb (UInt8.toNat_inj.1 e)
      have hbt : ¬ ((bb (rbit w (endR w t i s))).toNat : Int) = (x.toNat : Int) := by omega
      rw [hi1, hst]
      generalize agC w t s l i = z at *
      conv => lhs; rw [fi14, xl14_1]; simp only [B14_1, b14, Tryd.f14, Option.getD, fstC, sndC, bodyC, thnC, elsC]
      rw [fi14]
      simp [xI_seq, xI_region, xI_ret, regA, regOps, runOps, opStep, wantedA, opA, evo, evos, calleeA, lk, nif_eq, putE, paramsE, valS, val2, keepE, restrict, finA, resA, binA, binInt, ofConst, ofConst1, loadA, TK.isAgg, asVar, unA, builtinA, lenOpA, lenA, ileb_cast, ileb_eq, ieqb_dec, indexAddrA, inB_dec, evPairs, storeA, AV.cellsOf, pairsOf, xI_nil, binBool, gcE, evOpt, tagZ, xI_block, xI_loopH, xI_condM, xI_exitM, xI_skip, xI_blk, exitA, ty2, ty3, ty4, ty5, ty9, ty24, ty27, eK14_0_0, eK14_1_2, eK14_1_1, eK14_1_0, runTr, pairsOk, pairOk, lstAt, lastOf, sameVal, AV.eqv, eqvs, eqvs_ints, regOps, blt_dec, cond_true, cond_false, fieldAddrA, ty2, ty27, ty9, indexA, q1, q2, hlt, hnle, hw, hwa, hbt, hbn]

theorem x14g (w t s a n b : Nat) (N : Int) (l : List UInt8) (most : Int) (σ : St) (h : most < (a : Int)) (hw : wrapA .i64 ((s : Int) + 1) = (s : Int) + 1) :
    exI TT (FI.of Tryd.f14 (TT.an 14)) K14_1 [(1, .str l), (2, .ptr 0 0), (7, .sl b 0 n n), (8, .int .i64 most), (9, .int .i64 s), (10, .int .i64 a), (11, .str (outR w t l.length s)), (30, .int .i64 N), (31, .int .i64 s), (43, .int .i64 l.length), (44, .int .i64 l.length)] σ = exI TT (FI.of Tryd.f14 (TT.an 14)) K14_0 [(1, .str l), (2, .ptr 0 0), (7, .sl (σ.n + 1) 0 1 1), (8, .int .i64 a), (30, .int .i64 N), (31, .int .i64 ((s : Int) + 1))] ((σ.push ⟨[.int .i64 s], 1, false⟩).push ⟨ints [(s : Int)], 1, true⟩) := by
  rw [fi14]
  conv => lhs; rw [xl14_1]
  simp only [B14_1, b14, Tryd.f14, Option.getD, fstC, sndC, bodyC, thnC, elsC]
  simp [xI_seq, xI_region, xI_ret, regA, regOps, runOps, opStep, wantedA, opA, evo, evos, calleeA, lk, nif_eq, putE, paramsE, valS, val2, keepE, restrict, finA, resA, binA, binInt, ofConst, ofConst1, loadA, TK.isAgg, asVar, unA, builtinA, lenOpA, lenA, ileb_cast, ileb_eq, ieqb_dec, indexAddrA, inB_dec, evPairs, storeA, AV.cellsOf, pairsOf, xI_nil, binBool, gcE, evOpt, tagZ, xI_block, xI_loopH, xI_condM, xI_exitM, xI_skip, xI_blk, exitA, ty2, ty3, ty4, ty5, ty9, ty24, ty27, eK14_0_0, eK14_1_2, eK14_1_1, eK14_1_0, runTr, pairsOk, pairOk, lstAt, lastOf, sameVal, AV.eqv, eqvs, eqvs_ints, regOps, blt_dec, cond_true, cond_false, fieldAddrA, ty2, ty27, ty9, indexA, h, hw, bsI1, appN]
  simp only [R14_1_2, b14, Tryd.f14, Option.getD, fstC, sndC, bodyC, thnC, elsC]
  simp [xI_seq, xI_region, xI_ret, regA, regOps, runOps, opStep, wantedA, opA, evo, evos, calleeA, lk, nif_eq, putE, paramsE, valS, val2, keepE, restrict, finA, resA, binA, binInt, ofConst, ofConst1, loadA, TK.isAgg, asVar, unA, builtinA, lenOpA, lenA, ileb_cast, ileb_eq, ieqb_dec, indexAddrA, inB_dec, evPairs, storeA, AV.cellsOf, pairsOf, xI_nil, binBool, gcE, evOpt, tagZ, xI_block, xI_loopH, xI_condM, xI_exitM, xI_skip, xI_blk, exitA, ty2, ty3, ty4, ty5, ty9, ty24, ty27, eK14_0_0, eK14_1_2, eK14_1_1, eK14_1_0, runTr, pairsOk, pairOk, lstAt, lastOf, sameVal, AV.eqv, eqvs, eqvs_ints, regOps, blt_dec, cond_true, cond_false, fieldAddrA, ty2, ty27, ty9, indexA, h, hw, bsI1, appN]

theorem x14e (w t s a n b b2 n2 : Nat) (N : Int) (l : List UInt8) (most : Int) (σ σ2 : St) (h : ¬ most < (a : Int)) (h2 : (a : Int) = most) (ha : appendA TT (σ.push ⟨[.int .i64 s], 1, false⟩) 24 24 (.sl b 0 n n) (.sl σ.n 0 1 1) = some (.sl b2 0 n2 n2, σ2)) (hw : wrapA .i64 ((s : Int) + 1) = (s : Int) + 1) :
    exI TT (FI.of Tryd.f14 (TT.an 14)) K14_1 [(1, .str l), (2, .ptr 0 0), (7, .sl b 0 n n), (8, .int .i64 most), (9, .int .i64 s), (10, .int .i64 a), (11, .str (outR w t l.length s)), (30, .int .i64 N), (31, .int .i64 s), (43, .int .i64 l.length), (44, .int .i64 l.length)] σ = exI TT (FI.of Tryd.f14 (TT.an 14)) K14_0 [(1, .str l), (2, .ptr 0 0), (7, .sl b2 0 n2 n2), (8, .int .i64 most), (30, .int .i64 N), (31, .int .i64 ((s : Int) + 1))] σ2 := by
  rw [fi14]
  conv => lhs; rw [xl14_1]
  simp only [B14_1, b14, Tryd.f14, Option.getD, fstC, sndC, bodyC, thnC, elsC]
  simp [xI_seq, xI_region, xI_ret, regA, regOps, runOps, opStep, wantedA, opA, evo, evos, calleeA, lk, nif_eq, putE, paramsE, valS, val2, keepE, restrict, finA, resA, binA, binInt, ofConst, ofConst1, loadA, TK.isAgg, asVar, unA, builtinA, lenOpA, lenA, ileb_cast, ileb_eq, ieqb_dec, indexAddrA, inB_dec, evPairs, storeA, AV.cellsOf, pairsOf, xI_nil, binBool, gcE, evOpt, tagZ, xI_block, xI_loopH, xI_condM, xI_exitM, xI_skip, xI_blk, exitA, ty2, ty3, ty4, ty5, ty9, ty24, ty27, eK14_0_0, eK14_1_2, eK14_1_1, eK14_1_0, runTr, pairsOk, pairOk, lstAt, lastOf, sameVal, AV.eqv, eqvs, eqvs_ints, regOps, blt_dec, cond_true, cond_false, fieldAddrA, ty2, ty27, ty9, indexA, h, h2, ha, hw, bsI1]
  simp only [R14_1_2, b14, Tryd.f14, Option.getD, fstC, sndC, bodyC, thnC, elsC]
  simp [xI_seq, xI_region, xI_ret, regA, regOps, runOps, opStep, wantedA, opA, evo, evos, calleeA, lk, nif_eq, putE, paramsE, valS, val2, keepE, restrict, finA, resA, binA, binInt, ofConst, ofConst1, loadA, TK.isAgg, asVar, unA, builtinA, lenOpA, lenA, ileb_cast, ileb_eq, ieqb_dec, indexAddrA, inB_dec, evPairs, storeA, AV.cellsOf, pairsOf, xI_nil, binBool, gcE, evOpt, tagZ, xI_block, xI_loopH, xI_condM, xI_exitM, xI_skip, xI_blk, exitA, ty2, ty3, ty4, ty5, ty9, ty24, ty27, eK14_0_0, eK14_1_2, eK14_1_1, eK14_1_0, runTr, pairsOk, pairOk, lstAt, lastOf, sameVal, AV.eqv, eqvs, eqvs_ints, regOps, blt_dec, cond_true, cond_false, fieldAddrA, ty2, ty27, ty9, indexA, h, h2, ha, hw, bsI1]

theorem x14l (w t s a n b : Nat) (N : Int) (l : List UInt8) (most : Int) (σ : St) (h : ¬ most < (a : Int)) (h2 : ¬ (a : Int) = most) (hw : wrapA .i64 ((s : Int) + 1) = (s : Int) + 1) :
    exI TT (FI.of Tryd.f14 (TT.an 14)) K14_1 [(1, .str l), (2, .ptr 0 0), (7, .sl b 0 n n), (8, .int .i64 most), (9, .int .i64 s), (10, .int .i64 a), (11, .str (outR w t l.length s)), (30, .int .i64 N), (31, .int .i64 s), (43, .int .i64 l.length), (44, .int .i64 l.length)] σ = exI TT (FI.of Tryd.f14 (TT.an 14)) K14_0 [(1, .str l), (2, .ptr 0 0), (7, .sl b 0 n n), (8, .int .i64 most), (30, .int .i64 N), (31, .int .i64 ((s : Int) + 1))] σ := by
  rw [fi14]
  conv => lhs; rw [xl14_1]
  simp only [B14_1, b14, Tryd.f14, Option.getD, fstC, sndC, bodyC, thnC, elsC]
  simp [xI_seq, xI_region, xI_ret, regA, regOps, runOps, opStep, wantedA, opA, evo, evos, calleeA, lk, nif_eq, putE, paramsE, valS, val2, keepE, restrict, finA, resA, binA, binInt, ofConst, ofConst1, loadA, TK.isAgg, asVar, unA, builtinA, lenOpA, lenA, ileb_cast, ileb_eq, ieqb_dec, indexAddrA, inB_dec, evPairs, storeA, AV.cellsOf, pairsOf, xI_nil, binBool, gcE, evOpt, tagZ, xI_block, xI_loopH, xI_condM, xI_exitM, xI_skip, xI_blk, exitA, ty2, ty3, ty4, ty5, ty9, ty24, ty27, eK14_0_0, eK14_1_2, eK14_1_1, eK14_1_0, runTr, pairsOk, pairOk, lstAt, lastOf, sameVal, AV.eqv, eqvs, eqvs_ints, regOps, blt_dec, cond_true, cond_false, fieldAddrA, ty2, ty27, ty9, indexA, h, h2, hw]
  simp only [R14_1_2, b14, Tryd.f14, Option.getD, fstC, sndC, bodyC, thnC, elsC]
  simp [xI_seq, xI_region, xI_ret, regA, regOps, runOps, opStep, wantedA, opA, evo, evos, calleeA, lk, nif_eq, putE, paramsE, valS, val2, keepE, restrict, finA, resA, binA, binInt, ofConst, ofConst1, loadA, TK.isAgg, asVar, unA, builtinA, lenOpA, lenA, ileb_cast, ileb_eq, ieqb_dec, indexAddrA, inB_dec, evPairs, storeA, AV.cellsOf, pairsOf, xI_nil, binBool, gcE, evOpt, tagZ, xI_block, xI_loopH, xI_condM, xI_exitM, xI_skip, xI_blk, exitA, ty2, ty3, ty4, ty5, ty9, ty24, ty27, eK14_0_0, eK14_1_2, eK14_1_1, eK14_1_0, runTr, pairsOk, pairOk, lstAt, lastOf, sameVal, AV.eqv, eqvs, eqvs_ints, regOps, blt_dec, cond_true, cond_false, fieldAddrA, ty2, ty27, ty9, indexA, h, h2, hw]

theorem y14 (w t s N n b : Nat) (l : List UInt8) (most : Int) (σ : St) (h : s < N) (e : Int) (hb : cellsAt σ (.ptr 0 0) 2 = some [.int .i64 w, .int .i64 t]) (c1 : ∀ σ, callI TT 64 [.agg [.int .i64 w, .int .i64 t], .int .i64 s, .int .i64 l.length] σ = some (.tup [.str (outR w t l.length s), .int .i64 e], σ)) :
    exI TT (FI.of Tryd.f14 (TT.an 14)) K14_0 [(1, .str l), (2, .ptr 0 0), (7, .sl b 0 n n), (8, .int .i64 most), (30, .int .i64 N), (31, .int .i64 s)] σ = exI TT (FI.of Tryd.f14 (TT.an 14)) K14_1 [(1, .str l), (2, .ptr 0 0), (7, .sl b 0 n n), (8, .int .i64 most), (9, .int .i64 s), (10, .int .i64 0), (11, .str (outR w t l.length s)), (30, .int .i64 N), (31, .int .i64 s), (43, .int .i64 l.length), (44, .int .i64 0)] σ := by
  have h' : (s : Int) < (N : Int) := by omega
  have h2 : ¬ N ≤ s := by omega
  rw [fi14]
  conv => lhs; rw [xl14_0]
  simp only [B14_0, b14, Tryd.f14, Option.getD, fstC, sndC, bodyC, thnC, elsC]
  simp [xI_seq, xI_region, xI_ret, regA, regOps, runOps, opStep, wantedA, opA, evo, evos, calleeA, lk, nif_eq, putE, paramsE, valS, val2, keepE, restrict, finA, resA, binA, binInt, ofConst, ofConst1, loadA, TK.isAgg, asVar, unA, builtinA, lenOpA, lenA, ileb_cast, ileb_eq, ieqb_dec, indexAddrA, inB_dec, evPairs, storeA, AV.cellsOf, pairsOf, xI_nil, binBool, gcE, evOpt, tagZ, xI_block, xI_loopH, xI_condM, xI_exitM, xI_skip, xI_blk, exitA, ty2, ty3, ty4, ty5, ty9, ty24, ty27, eK14_0_0, eK14_1_2, eK14_1_1, eK14_1_0, runTr, pairsOk, pairOk, lstAt, lastOf, sameVal, AV.eqv, eqvs, eqvs_ints, regOps, blt_dec, cond_true, cond_false, fieldAddrA, ty2, ty27, ty9, indexA, h', h2, hb, c1]
  rfl
theorem z14 (n b : Nat) (N : Nat) (l : List UInt8) (most : Int) (σ : St) : exI TT (FI.of Tryd.f14 (TT.an 14)) K14_0 [(1, .str l), (2, .ptr 0 0), (7, .sl b 0 n n), (8, .int .i64 most), (30, .int .i64 N), (31, .int .i64 N)] σ = some (.tup [.sl b 0 n n, .int .i64 most, .bool true], σ) := by
  rw [fi14]
  conv => lhs; rw [xl14_0]
  simp only [B14_0, b14, Tryd.f14, Option.getD, fstC, sndC, bodyC, thnC, elsC]
  simp [xI_seq, xI_region, xI_ret, regA, regOps, runOps, opStep, wantedA, opA, evo, evos, calleeA, lk, nif_eq, putE, paramsE, valS, val2, keepE, restrict, finA, resA, binA, binInt, ofConst, ofConst1, loadA, TK.isAgg, asVar, unA, builtinA, lenOpA, lenA, ileb_cast, ileb_eq, ieqb_dec, indexAddrA, inB_dec, evPairs, storeA, AV.cellsOf, pairsOf, xI_nil, binBool, gcE, evOpt, tagZ, xI_block, xI_loopH, xI_condM, xI_exitM, xI_skip, xI_blk, exitA, ty2, ty3, ty4, ty5, ty9, ty24, ty27, eK14_0_0, eK14_1_2, eK14_1_1, eK14_1_0]
  simp only [R14_0_0, b14, Tryd.f14, Option.getD, fstC, sndC, bodyC, thnC, elsC]
  simp [xI_seq, xI_region, xI_ret, regA, regOps, runOps, opStep, wantedA, opA, evo, evos, calleeA, lk, nif_eq, putE, paramsE, valS, val2, keepE, restrict, finA, resA, binA, binInt, ofConst, ofConst1, loadA, TK.isAgg, asVar, unA, builtinA, lenOpA, lenA, ileb_cast, ileb_eq, ieqb_dec, indexAddrA, inB_dec, evPairs, storeA, AV.cellsOf, pairsOf, xI_nil, binBool, gcE, evOpt, tagZ, xI_block, xI_loopH, xI_condM, xI_exitM, xI_skip, xI_blk, exitA, ty2, ty3, ty4, ty5, ty9, ty24, ty27, eK14_0_0, eK14_1_2, eK14_1_1, eK14_1_0]

theorem m14 (w t : Nat) (hw : w ≤ 10) (ht : t < 2 ^ w) (l : List UInt8) (hl : l.length ≤ 400) (hb : l.all isBit = true) : ∀ (m k : Nat) (σ : St) (b : Nat), k + m = 2 ^ w → Row σ b ((bestR w t l k).1) → σ.get 0 = some ⟨[.int .i64 w, .int .i64 t], 2, false⟩ → b ≠ 0 →
    ∃ σ' b' o, exI TT (FI.of Tryd.f14 (TT.an 14)) K14_0 [(1, .str l), (2, .ptr 0 0), (7, .sl b 0 (bestR w t l k).1.length (bestR w t l k).1.length), (8, .int .i64 (bestR w t l k).2), (30, .int .i64 (2 ^ w : Nat)), (31, .int .i64 k)] σ = some (.tup [.sl b' 0 (bestR w t l (2 ^ w)).1.length (bestR w t l (2 ^ w)).1.length, .int .i64 (bestR w t l (2 ^ w)).2, .bool true], σ') ∧ σ'.get b' = some ⟨ints (bestR w t l (2 ^ w)).1, 1, o⟩ := by
  have h10 : 2 ^ w ≤ 2 ^ 10 := Nat.pow_le_pow_right (by decide) hw
  intro m
  induction m with
  | zero =>
    intro k σ b hk hr h0 hb0
    obtain rfl : k = 2 ^ w := by omega
    obtain ⟨o, hg, _⟩ := hr
    exact ⟨σ, b, o, z14 _ b (2 ^ w) l _ σ, hg⟩
  | succ m ih =>
    intro k σ b hk hr h0 hb0
    obtain ⟨e1, e2, e3⟩ := bestR_len w t l k
    have hn0 := hr.lt
    have hwk := wrapS (n := k) (by omega)
    have hk1 : ((k + 1 : Nat) : Int) = (k : Int) + 1 := by omega
    have hst : bestR w t l (k + 1) = bst (bestR w t l k).1 (bestR w t l k).2 k (agC w t k l l.length) := rfl
    have hag := agC_le w t k l l.length
    have hcp : cellsAt σ (.ptr 0 0) 2 = some [.int .i64 w, .int .i64 t] := by simp [cellsAt, h0, getCells, takeN, dropN]
    have hstep := (y14 w t k (2 ^ w) (bestR w t l k).1.length b l (bestR w t l k).2 σ (by omega) _ hcp (fun σ => v64 w t l.length k (by omega) (Nat.lt_of_lt_of_le ht (by omega)) (by omega) (by omega) σ _ rfl)).trans (i14 w t k (2 ^ w : Nat) l hl (.sl b 0 (bestR w t l k).1.length (bestR w t l k).1.length) (bestR w t l k).2 σ l.length 0 (by omega))
    generalize agC w t k l l.length = a at *
    by_cases hg : (bestR w t l k).2 < (a : Int)
    · rw [bst, if_pos hg] at hst
      have hr2 : Row ((σ.push ⟨[.int .i64 k], 1, false⟩).push ⟨ints [(k : Int)], 1, true⟩) (σ.n + 1) [(k : Int)] := Row.push (σ := σ.push ⟨[.int .i64 k], 1, false⟩)
      obtain ⟨σ', b', o, q1, q2⟩ := ih (k + 1) _ (σ.n + 1) (by omega) (by rw [hst]; exact hr2) (by rw [get_push_lt (by simp only [n_push]; omega), get_push_lt (by omega)]; exact h0) (by omega)
      rw [hst, hk1] at q1
      exact ⟨σ', b', o, by rw [hstep]; exact (x14g w t k a _ b _ l _ σ hg hwk).trans q1, q2⟩
    · by_cases hq : (bestR w t l k).2 = (a : Int)
      · rw [bst, if_neg hg, if_pos hq] at hst
        obtain ⟨σ2, ha, hr2, hn2, hu⟩ := append_row (x := (k : Int)) ty24 ty2 hr (n := (bestR w t l k).1.length) rfl (by omega)
        obtain ⟨σ', b', o, q1, q2⟩ := ih (k + 1) σ2 (σ.n + 1) (by omega) (by rw [hst]; exact hr2) ((hu 0 (fun e => hb0 e.symm) (by omega)).trans h0) (by omega)
        rw [hst, hk1] at q1
        simp only [List.length_append, List.length_singleton] at q1
        exact ⟨σ', b', o, by rw [hstep]; exact (x14e w t k a _ b _ _ _ l _ σ σ2 hg hq.symm ha hwk).trans q1, q2⟩
      · rw [bst, if_neg hg, if_neg hq] at hst
        obtain ⟨σ', b', o, q1, q2⟩ := ih (k + 1) σ b (by omega) (by rw [hst]; exact hr) h0 hb0
        rw [hst, hk1] at q1
        exact ⟨σ', b', o, by rw [hstep]; exact (x14l w t k a _ b _ l _ σ hg (fun e => hq e.symm) hwk).trans q1, q2⟩

theorem bsOk_nat {w t : Int} {l : List UInt8} (h : bsOk w t l = true) : ∃ k m : Nat, w = k ∧ t = m ∧ k ≤ 10 ∧ m < 2 ^ k ∧ l.length ≤ 400 ∧ l.all isBit = true := by
  simp only [bsOk, Bool.and_eq_true, decide_eq_true_eq, isBits] at h
  obtain ⟨h1, h2, h3, h4⟩ := h
  obtain ⟨k, m, rfl, rfl, a1, a2, a3⟩ := reg_nat h1
  exact ⟨k, m, rfl, rfl, by omega, a2, h3, h4⟩
theorem bsR_no {w t : Int} {l : List UInt8} (h : bsOk w t l = false) : bsR w t l = none := by simp [bsR, h]
theorem bsR_yes {k m : Nat} {l : List UInt8} (h : bsOk k m l = true) : bsR k m l = some (bestR k m l (2 ^ k)) := by simp [bsR, h]
theorem pow_i (k : Nat) (hk : k ≤ 60) : wrapA .i64 (shlA (1 : Int) (min k IntKind.i64.bits)) = ((2 ^ k : Nat) : Int) := by
  rw [Nat.min_eq_left (by simp [IntKind.bits]; omega)]
  show wrapA .i64 ((1 * 2 ^ k : Nat) : Int) = _
  rw [Nat.one_mul]
  have : 2 ^ k ≤ 2 ^ 60 := Nat.pow_le_pow_right (by decide) hk
  generalize 2 ^ k = z at *
  exact wrapA_id (by omega) (by omega)

set_option maxHeartbeats 1000000 in
theorem r14 (w t : Int) (l : List UInt8) (hl : l.length ≤ 9223372036854775807) : FnP TT 14 [.agg [.int .i64 w, .int .i64 t], .str l] (bsR w t l) := by
  obtain ⟨σ, hσ⟩ : ∃ σ, (⟨[], 0⟩ : St).push ⟨[.int .i64 w, .int .i64 t], 2, false⟩ = σ := ⟨_, rfl⟩
  have hcp : cellsAt σ (.ptr 0 0) 1 = some [.int .i64 w] := by subst hσ; rfl
  have hcp2 : cellsAt σ (.ptr 0 0) 2 = some [.int .i64 w, .int .i64 t] := by subst hσ; rfl
  have hg : σ.get 0 = some ⟨[.int .i64 w, .int .i64 t], 2, false⟩ := by subst hσ; rfl
  have hn : σ.n = 1 := by subst hσ; rfl
  have hv : callI TT 62 [.agg [.int .i64 w, .int .i64 t]] σ = some (.bool (vreg w t), σ) := v62 w t σ _ rfl
  have hi := c63 l hl σ
  cases hok : bsOk w t l with
  | false =>
    rw [bsR_no hok]
    refine FnP.mkN (c := Tryd.f14.body.getD .skip) fn14 rfl md14 ?_
    rw [fi14]
    simp only [Tryd.f14, Option.getD]
    cases h1 : vreg w t with
    | false =>
      rw [h1] at hv
      simp [xI_seq, xI_region, xI_ret, regA, regOps, runOps, opStep, wantedA, opA, evo, evos, calleeA, lk, nif_eq, putE, paramsE, valS, val2, keepE, restrict, finA, resA, binA, binInt, ofConst, ofConst1, loadA, TK.isAgg, asVar, unA, builtinA, lenOpA, lenA, ileb_cast, ileb_eq, ieqb_dec, indexAddrA, inB_dec, evPairs, storeA, AV.cellsOf, pairsOf, xI_nil, binBool, gcE, evOpt, tagZ, xI_block, xI_loopH, xI_condM, xI_exitM, xI_skip, xI_blk, exitA, ty2, ty3, ty4, ty5, ty9, ty24, ty27, eK14_0_0, eK14_1_2, eK14_1_1, eK14_1_0, runTr, pairsOk, pairOk, lstAt, lastOf, sameVal, AV.eqv, eqvs, eqvs_ints, regOps, blt_dec, cond_true, cond_false, fieldAddrA, ty2, ty27, ty9, indexA, allOne, AV.one, n_push, hσ, hcp, hcp2, hv]
    | true =>
      rw [h1] at hv
      by_cases h2 : w ≤ 10
      · have h3 : isBits l = false := by simpa [bsOk, h1, h2] using hok
        rw [h3] at hi
        have h2' : ¬ 10 < w := by omega
        simp [xI_seq, xI_region, xI_ret, regA, regOps, runOps, opStep, wantedA, opA, evo, evos, calleeA, lk, nif_eq, putE, paramsE, valS, val2, keepE, restrict, finA, resA, binA, binInt, ofConst, ofConst1, loadA, TK.isAgg, asVar, unA, builtinA, lenOpA, lenA, ileb_cast, ileb_eq, ieqb_dec, indexAddrA, inB_dec, evPairs, storeA, AV.cellsOf, pairsOf, xI_nil, binBool, gcE, evOpt, tagZ, xI_block, xI_loopH, xI_condM, xI_exitM, xI_skip, xI_blk, exitA, ty2, ty3, ty4, ty5, ty9, ty24, ty27, eK14_0_0, eK14_1_2, eK14_1_1, eK14_1_0, runTr, pairsOk, pairOk, lstAt, lastOf, sameVal, AV.eqv, eqvs, eqvs_ints, regOps, blt_dec, cond_true, cond_false, fieldAddrA, ty2, ty27, ty9, indexA, allOne, AV.one, n_push, hσ, hcp, hcp2, hv, hi, h2, h2']
      · have h2' : 10 < w := by omega
        simp [xI_seq, xI_region, xI_ret, regA, regOps, runOps, opStep, wantedA, opA, evo, evos, calleeA, lk, nif_eq, putE, paramsE, valS, val2, keepE, restrict, finA, resA, binA, binInt, ofConst, ofConst1, loadA, TK.isAgg, asVar, unA, builtinA, lenOpA, lenA, ileb_cast, ileb_eq, ieqb_dec, indexAddrA, inB_dec, evPairs, storeA, AV.cellsOf, pairsOf, xI_nil, binBool, gcE, evOpt, tagZ, xI_block, xI_loopH, xI_condM, xI_exitM, xI_skip, xI_blk, exitA, ty2, ty3, ty4, ty5, ty9, ty24, ty27, eK14_0_0, eK14_1_2, eK14_1_1, eK14_1_0, runTr, pairsOk, pairOk, lstAt, lastOf, sameVal, AV.eqv, eqvs, eqvs_ints, regOps, blt_dec, cond_true, cond_false, fieldAddrA, ty2, ty27, ty9, indexA, allOne, AV.one, n_push, hσ, hcp, hcp2, hv, h2, h2']
  | true =>
    obtain ⟨k, m, rfl, rfl, hk, hm, hll, hb⟩ := bsOk_nat hok
    rw [bsR_yes hok]
    have hok2 := hok
    simp only [bsOk, Bool.and_eq_true] at hok2
    rw [hok2.1] at hv
    rw [hok2.2.2] at hi
    have h2 : (k : Int) ≤ 10 := by omega
    have h2' : ¬ (10 : Int) < k := by omega
    have hp := pow_i k (by omega)
    have hrow := Row.push (σ := σ) (l := ([] : List Int)) (o := false)
    rw [hn] at hrow
    obtain ⟨σ', b', o, q1, q2⟩ := m14 k m hk hm l hll hb (2 ^ k) 0 (σ.push ⟨ints [], 1, false⟩) 1 (by omega) hrow ((get_push_lt (by omega)).trans hg) (by decide)
    refine FnP.mkS (c := b14) fn14 rfl md14 ⟨σ', b', o, ?_, q2⟩
    have hcp3 : cellsAt (σ.push ⟨ints [], 1, false⟩) (.ptr 0 0) 1 = some [.int .i64 k] := by simp only [cellsAt]; rw [get_push_lt (by omega), hg]; rfl
    rw [← q1, fi14]
    simp only [b14, Tryd.f14, Option.getD, fstC, sndC, bodyC, thnC, elsC]
    simp [xI_seq, xI_region, xI_ret, regA, regOps, runOps, opStep, wantedA, opA, evo, evos, calleeA, lk, nif_eq, putE, paramsE, valS, val2, keepE, restrict, finA, resA, binA, binInt, ofConst, ofConst1, loadA, TK.isAgg, asVar, unA, builtinA, lenOpA, lenA, ileb_cast, ileb_eq, ieqb_dec, indexAddrA, inB_dec, evPairs, storeA, AV.cellsOf, pairsOf, xI_nil, binBool, gcE, evOpt, tagZ, xI_block, xI_loopH, xI_condM, xI_exitM, xI_skip, xI_blk, exitA, ty2, ty3, ty4, ty5, ty9, ty24, ty27, eK14_0_0, eK14_1_2, eK14_1_1, eK14_1_0, runTr, pairsOk, pairOk, lstAt, lastOf, sameVal, AV.eqv, eqvs, eqvs_ints, regOps, blt_dec, cond_true, cond_false, fieldAddrA, ty2, ty27, ty9, indexA, allOne, AV.one, n_push, hσ, hn, hcp, hcp2, hcp3, hv, hi, h2, h2', hp, bsI0]
    rfl

noncomputable def b12 : Code := Tryd.f12.body.getD .skip
noncomputable def B12_0 : Code := (bodyC (bodyC (sndC (fstC (sndC (sndC (sndC (sndC b12))))))))
noncomputable def K12_0 : List It := .lp B12_0 :: .blk 0 :: .code (sndC (sndC (sndC (sndC (sndC b12))))) :: []
theorem xl12_0 {fi : FI} {env : Env} {σ : St} : exI TT fi K12_0 env σ = exI TT fi (.code B12_0 :: K12_0) env σ := by unfold K12_0; exact xI_lp
noncomputable def R12_0_0 : List It := .code (sndC (sndC (sndC (sndC (sndC b12))))) :: []
theorem eK12_0_0 : exitA 0 K12_0 = some R12_0_0 := rfl
noncomputable def B12_1 : Code := (bodyC (bodyC (sndC (fstC (sndC (sndC (bodyC (fstC (sndC (bodyC (bodyC (sndC (fstC (sndC (sndC (sndC (sndC b12)))))))))))))))))
noncomputable def K12_1 : List It := .lp B12_1 :: .blk 2 :: .code (sndC (sndC (sndC (bodyC (fstC (sndC (bodyC (bodyC (sndC (fstC (sndC (sndC (sndC (sndC b12)))))))))))))) :: .blk 1 :: .code (sndC (sndC (bodyC (bodyC (sndC (fstC (sndC (sndC (sndC (sndC b12)))))))))) :: K12_0
theorem xl12_1 {fi : FI} {env : Env} {σ : St} : exI TT fi K12_1 env σ = exI TT fi (.code B12_1 :: K12_1) env σ := by unfold K12_1; exact xI_lp
noncomputable def R12_1_2 : List It := .code (sndC (sndC (sndC (bodyC (fstC (sndC (bodyC (bodyC (sndC (fstC (sndC (sndC (sndC (sndC b12)))))))))))))) :: .blk 1 :: .code (sndC (sndC (bodyC (bodyC (sndC (fstC (sndC (sndC (sndC (sndC b12)))))))))) :: K12_0
theorem eK12_1_2 : exitA 2 K12_1 = some R12_1_2 := rfl
noncomputable def R12_1_1 : List It := .code (sndC (sndC (bodyC (bodyC (sndC (fstC (sndC (sndC (sndC (sndC b12)))))))))) :: K12_0
theorem eK12_1_1 : exitA 1 K12_1 = some R12_1_1 := rfl
theorem eK12_1_0 : exitA 0 K12_1 = some R12_0_0 := rfl
set_option maxHeartbeats 4000000 in
theorem i12 (w t s : Nat) (hw16 : w ≤ 16) (ht : t < 65536) (hs : s < 2 ^ w) (l : List UInt8) (hl : l.length ≤ 400) (hbits : l.all isBit = true) (o : AV) (most : Int) (σ : St) (h0 : σ.get 0 = some ⟨[.int .i64 w, .int .i64 t], 2, false⟩) : ∀ m i : Nat, i + m = l.length →
    exI TT (FI.of Tryd.f12 (TT.an 12)) K12_1 [(1, .str l), (2, .ptr 0 0), (7, o), (8, .int .i64 most), (9, .int .i64 s), (10, .int .i64 (agC w t s l i : Nat)), (11, .int .i64 (endR w t i s : Nat)), (12, .int .i64 i)] σ = exI TT (FI.of Tryd.f12 (TT.an 12)) K12_1 [(1, .str l), (2, .ptr 0 0), (7, o), (8, .int .i64 most), (9, .int .i64 s), (10, .int .i64 (agC w t s l l.length : Nat)), (11, .int .i64 (endR w t l.length s : Nat)), (12, .int .i64 l.length)] σ := by
  have hp16 : 2 ^ w ≤ 2 ^ 16 := Nat.pow_le_pow_right (by decide) hw16
  intro m
  induction m with
  | zero =>
    intro i hi
    obtain rfl : i = l.length := by omega
    rfl
  | succ m ih =>
    intro i hi
    have h1 := ih (i + 1) (by omega)
    have hi1 : ((i + 1 : Nat) : Int) = (i : Int) + 1 := by omega
    have hil : i < l.length := by omega
    have hc := endR_lt (t := t) hs i
    have q1 := c61 w t (endR w t i s) hw16 ht (by omega) σ 0 _ h0 rfl
    have hrb := rbit_lt w (endR w t i s)
    rw [← endR_succ] at q1
    obtain ⟨x, q2⟩ := get_at hil
    have hlt : (i : Int) < (l.length : Int) := by omega
    have hnle : ¬ l.length ≤ i := by omega
    have hw := wrapS (n := i) (by omega)
    have hag := agC_le w t s l i
    have hwa := wrapS (n := agC w t s l i) (by omega)
    have hx := isBit_at hbits q2
    obtain ⟨y, hy, hy2⟩ : ∃ y : Nat, x.toNat = 48 + y ∧ y < 2 := ⟨x.toNat - 48, by omega, by omega⟩
    have hu8 : wrapA .u8 ((x.toNat : Int) - 48) = (y : Int) := by
      rw [hy]
      have : (((48 + y : Nat) : Int) - 48) = (y : Int) := by omega
      rw [this]; exact w_wrap .u8 (by simp only [topOf]; omega)
    have hu64 : wrapA .i64 (y : Int) = (y : Int) := wrapA_id (by omega) (by omega)
    rw [← h1]
    by_cases hb : rbit w (endR w t i s) = y
    · have hbx : bb (rbit w (endR w t i s)) = x := (bb_eq hrb).2 (by rw [hy, hb])
      have hst : agC w t s l (i + 1) = agC w t s l i + 1 := by rw [agC, if_pos (by rw [q2, hbx])]
      have hst1 : ((agC w t s l (i + 1) : Nat) : Int) = ((agC w t s l i : Nat) : Int) + 1 := by rw [hst]; omega
      rw [hi1, hst1]
      rw [hb] at q1
      generalize agC w t s l i = z at *
      generalize endR w t (i + 1) s = z1 at *
      generalize endR w t i s = z2 at *
      conv => lhs; rw [fi12, xl12_1]; simp only [B12_1, b12, Tryd.f12, Option.getD, fstC, sndC, bodyC, thnC, elsC]
      rw [fi12]
      simp [xI_seq, xI_region, xI_ret, regA, regOps, runOps, opStep, wantedA, opA, evo, evos, calleeA, lk, nif_eq, putE, paramsE, valS, val2, keepE, restrict, finA, resA, binA, binInt, ofConst, ofConst1, loadA, TK.isAgg, asVar, unA, builtinA, lenOpA, lenA, ileb_cast, ileb_eq, ieqb_dec, indexAddrA, inB_dec, evPairs, storeA, AV.cellsOf, pairsOf, xI_nil, binBool, gcE, evOpt, tagZ, xI_block, xI_loopH, xI_condM, xI_exitM, xI_skip, xI_blk, exitA, ty2, ty3, ty4, ty5, ty9, ty24, ty27, ty36, eK12_0_0, eK12_1_2, eK12_1_1, eK12_1_0, runTr, pairsOk, pairOk, lstAt, lastOf, sameVal, AV.eqv, eqvs, eqvs_ints, regOps, blt_dec, cond_true, cond_false, fieldAddrA, ty2, ty27, ty9, indexA, q1, q2, hlt, hnle, hw, hwa, hu8, hu64, convA, ty5]
    · have hbx : ¬ bb (rbit w (endR w t i s)) = x := fun e => hb (by have := (bb_eq hrb).1 e; rw [hy] at this; omega)
      have hst : agC w t s l (i + 1) = agC w t s l i := by rw [agC, if_neg (by rw [q2]; intro e; cases e; exact hbx rfl)]; rfl
      have hbi : ¬ ((rbit w (endR w t i s) : Nat) : Int) = (y : Int) := by omega
      rw [hi1, hst]
      generalize agC w t s l i = z at *
      generalize rbit w (endR w t i s) = z3 at *
      generalize endR w t (i + 1) s = z1 at *
      generalize endR w t i s = z2 at *
      conv => lhs; rw [fi12, xl12_1]; simp only [B12_1, b12, Tryd.f12, Option.getD, fstC, sndC, bodyC, thnC, elsC]
      rw [fi12]
      simp [xI_seq, xI_region, xI_ret, regA, regOps, runOps, opStep, wantedA, opA, evo, evos, calleeA, lk, nif_eq, putE, paramsE, valS, val2, keepE, restrict, finA, resA, binA, binInt, ofConst, ofConst1, loadA, TK.isAgg, asVar, unA, builtinA, lenOpA, lenA, ileb_cast, ileb_eq, ieqb_dec, indexAddrA, inB_dec, evPairs, storeA, AV.cellsOf, pairsOf, xI_nil, binBool, gcE, evOpt, tagZ, xI_block, xI_loopH, xI_condM, xI_exitM, xI_skip, xI_blk, exitA, ty2, ty3, ty4, ty5, ty9, ty24, ty27, ty36, eK12_0_0, eK12_1_2, eK12_1_1, eK12_1_0, runTr, pairsOk, pairOk, lstAt, lastOf, sameVal, AV.eqv, eqvs, eqvs_ints, regOps, blt_dec, cond_true, cond_false, fieldAddrA, ty2, ty27, ty9, indexA, q1, q2, hlt, hnle, hw, hwa, hu8, hu64, convA, ty5, hb, hbi]

theorem x12g (w t s a n b b2 : Nat) (l : List UInt8) (most : Int) (σ σ2 : St) (h : most < (a : Int)) (ha : appendA TT ((σ.push ⟨ints [], 1, false⟩).push ⟨[.int .i64 s], 1, false⟩) 24 24 (.sl σ.n 0 0 0) (.sl (σ.n + 1) 0 1 1) = some (.sl b2 0 1 1, σ2)) (hw : wrapA .i64 ((s : Int) + 1) = (s : Int) + 1) :
    exI TT (FI.of Tryd.f12 (TT.an 12)) K12_1 [(1, .str l), (2, .ptr 0 0), (7, .sl b 0 n n), (8, .int .i64 most), (9, .int .i64 s), (10, .int .i64 a), (11, .int .i64 (endR w t l.length s : Nat)), (12, .int .i64 l.length)] σ = exI TT (FI.of Tryd.f12 (TT.an 12)) K12_0 [(1, .str l), (2, .ptr 0 0), (7, .sl b2 0 1 1), (8, .int .i64 a), (9, .int .i64 ((s : Int) + 1))] σ2 := by
  rw [fi12]
  conv => lhs; rw [xl12_1]
  simp only [B12_1, b12, Tryd.f12, Option.getD, fstC, sndC, bodyC, thnC, elsC]
  simp [xI_seq, xI_region, xI_ret, regA, regOps, runOps, opStep, wantedA, opA, evo, evos, calleeA, lk, nif_eq, putE, paramsE, valS, val2, keepE, restrict, finA, resA, binA, binInt, ofConst, ofConst1, loadA, TK.isAgg, asVar, unA, builtinA, lenOpA, lenA, ileb_cast, ileb_eq, ieqb_dec, indexAddrA, inB_dec, evPairs, storeA, AV.cellsOf, pairsOf, xI_nil, binBool, gcE, evOpt, tagZ, xI_block, xI_loopH, xI_condM, xI_exitM, xI_skip, xI_blk, exitA, ty2, ty3, ty4, ty5, ty9, ty24, ty27, ty36, eK12_0_0, eK12_1_2, eK12_1_1, eK12_1_0, runTr, pairsOk, pairOk, lstAt, lastOf, sameVal, AV.eqv, eqvs, eqvs_ints, regOps, blt_dec, cond_true, cond_false, fieldAddrA, ty2, ty27, ty9, indexA, h, ha, hw, bsI0, bsI1, n_push]
  simp only [R12_1_2, b12, Tryd.f12, Option.getD, fstC, sndC, bodyC, thnC, elsC]
  simp [xI_seq, xI_region, xI_ret, regA, regOps, runOps, opStep, wantedA, opA, evo, evos, calleeA, lk, nif_eq, putE, paramsE, valS, val2, keepE, restrict, finA, resA, binA, binInt, ofConst, ofConst1, loadA, TK.isAgg, asVar, unA, builtinA, lenOpA, lenA, ileb_cast, ileb_eq, ieqb_dec, indexAddrA, inB_dec, evPairs, storeA, AV.cellsOf, pairsOf, xI_nil, binBool, gcE, evOpt, tagZ, xI_block, xI_loopH, xI_condM, xI_exitM, xI_skip, xI_blk, exitA, ty2, ty3, ty4, ty5, ty9, ty24, ty27, ty36, eK12_0_0, eK12_1_2, eK12_1_1, eK12_1_0, runTr, pairsOk, pairOk, lstAt, lastOf, sameVal, AV.eqv, eqvs, eqvs_ints, regOps, blt_dec, cond_true, cond_false, fieldAddrA, ty2, ty27, ty9, indexA, h, ha, hw, bsI0, bsI1, n_push]

theorem x12e (w t s a n b b2 n2 : Nat) (l : List UInt8) (most : Int) (σ σ2 : St) (h : ¬ most < (a : Int)) (h2 : (a : Int) = most) (ha : appendA TT (σ.push ⟨[.int .i64 s], 1, false⟩) 24 24 (.sl b 0 n n) (.sl σ.n 0 1 1) = some (.sl b2 0 n2 n2, σ2)) (hw : wrapA .i64 ((s : Int) + 1) = (s : Int) + 1) :
    exI TT (FI.of Tryd.f12 (TT.an 12)) K12_1 [(1, .str l), (2, .ptr 0 0), (7, .sl b 0 n n), (8, .int .i64 most), (9, .int .i64 s), (10, .int .i64 a), (11, .int .i64 (endR w t l.length s : Nat)), (12, .int .i64 l.length)] σ = exI TT (FI.of Tryd.f12 (TT.an 12)) K12_0 [(1, .str l), (2, .ptr 0 0), (7, .sl b2 0 n2 n2), (8, .int .i64 most), (9, .int .i64 ((s : Int) + 1))] σ2 := by
  rw [fi12]
  conv => lhs; rw [xl12_1]
  simp only [B12_1, b12, Tryd.f12, Option.getD, fstC, sndC, bodyC, thnC, elsC]
  simp [xI_seq, xI_region, xI_ret, regA, regOps, runOps, opStep, wantedA, opA, evo, evos, calleeA, lk, nif_eq, putE, paramsE, valS, val2, keepE, restrict, finA, resA, binA, binInt, ofConst, ofConst1, loadA, TK.isAgg, asVar, unA, builtinA, lenOpA, lenA, ileb_cast, ileb_eq, ieqb_dec, indexAddrA, inB_dec, evPairs, storeA, AV.cellsOf, pairsOf, xI_nil, binBool, gcE, evOpt, tagZ, xI_block, xI_loopH, xI_condM, xI_exitM, xI_skip, xI_blk, exitA, ty2, ty3, ty4, ty5, ty9, ty24, ty27, ty36, eK12_0_0, eK12_1_2, eK12_1_1, eK12_1_0, runTr, pairsOk, pairOk, lstAt, lastOf, sameVal, AV.eqv, eqvs, eqvs_ints, regOps, blt_dec, cond_true, cond_false, fieldAddrA, ty2, ty27, ty9, indexA, h, h2, ha, hw, bsI1]
  simp only [R12_1_2, b12, Tryd.f12, Option.getD, fstC, sndC, bodyC, thnC, elsC]
  simp [xI_seq, xI_region, xI_ret, regA, regOps, runOps, opStep, wantedA, opA, evo, evos, calleeA, lk, nif_eq, putE, paramsE, valS, val2, keepE, restrict, finA, resA, binA, binInt, ofConst, ofConst1, loadA, TK.isAgg, asVar, unA, builtinA, lenOpA, lenA, ileb_cast, ileb_eq, ieqb_dec, indexAddrA, inB_dec, evPairs, storeA, AV.cellsOf, pairsOf, xI_nil, binBool, gcE, evOpt, tagZ, xI_block, xI_loopH, xI_condM, xI_exitM, xI_skip, xI_blk, exitA, ty2, ty3, ty4, ty5, ty9, ty24, ty27, ty36, eK12_0_0, eK12_1_2, eK12_1_1, eK12_1_0, runTr, pairsOk, pairOk, lstAt, lastOf, sameVal, AV.eqv, eqvs, eqvs_ints, regOps, blt_dec, cond_true, cond_false, fieldAddrA, ty2, ty27, ty9, indexA, h, h2, ha, hw, bsI1]

theorem x12l (w t s a n b : Nat) (l : List UInt8) (most : Int) (σ : St) (h : ¬ most < (a : Int)) (h2 : ¬ (a : Int) = most) (hw : wrapA .i64 ((s : Int) + 1) = (s : Int) + 1) :
    exI TT (FI.of Tryd.f12 (TT.an 12)) K12_1 [(1, .str l), (2, .ptr 0 0), (7, .sl b 0 n n), (8, .int .i64 most), (9, .int .i64 s), (10, .int .i64 a), (11, .int .i64 (endR w t l.length s : Nat)), (12, .int .i64 l.length)] σ = exI TT (FI.of Tryd.f12 (TT.an 12)) K12_0 [(1, .str l), (2, .ptr 0 0), (7, .sl b 0 n n), (8, .int .i64 most), (9, .int .i64 ((s : Int) + 1))] σ := by
  rw [fi12]
  conv => lhs; rw [xl12_1]
  simp only [B12_1, b12, Tryd.f12, Option.getD, fstC, sndC, bodyC, thnC, elsC]
  simp [xI_seq, xI_region, xI_ret, regA, regOps, runOps, opStep, wantedA, opA, evo, evos, calleeA, lk, nif_eq, putE, paramsE, valS, val2, keepE, restrict, finA, resA, binA, binInt, ofConst, ofConst1, loadA, TK.isAgg, asVar, unA, builtinA, lenOpA, lenA, ileb_cast, ileb_eq, ieqb_dec, indexAddrA, inB_dec, evPairs, storeA, AV.cellsOf, pairsOf, xI_nil, binBool, gcE, evOpt, tagZ, xI_block, xI_loopH, xI_condM, xI_exitM, xI_skip, xI_blk, exitA, ty2, ty3, ty4, ty5, ty9, ty24, ty27, ty36, eK12_0_0, eK12_1_2, eK12_1_1, eK12_1_0, runTr, pairsOk, pairOk, lstAt, lastOf, sameVal, AV.eqv, eqvs, eqvs_ints, regOps, blt_dec, cond_true, cond_false, fieldAddrA, ty2, ty27, ty9, indexA, h, h2, hw]
  simp only [R12_1_2, b12, Tryd.f12, Option.getD, fstC, sndC, bodyC, thnC, elsC]
  simp [xI_seq, xI_region, xI_ret, regA, regOps, runOps, opStep, wantedA, opA, evo, evos, calleeA, lk, nif_eq, putE, paramsE, valS, val2, keepE, restrict, finA, resA, binA, binInt, ofConst, ofConst1, loadA, TK.isAgg, asVar, unA, builtinA, lenOpA, lenA, ileb_cast, ileb_eq, ieqb_dec, indexAddrA, inB_dec, evPairs, storeA, AV.cellsOf, pairsOf, xI_nil, binBool, gcE, evOpt, tagZ, xI_block, xI_loopH, xI_condM, xI_exitM, xI_skip, xI_blk, exitA, ty2, ty3, ty4, ty5, ty9, ty24, ty27, ty36, eK12_0_0, eK12_1_2, eK12_1_1, eK12_1_0, runTr, pairsOk, pairOk, lstAt, lastOf, sameVal, AV.eqv, eqvs, eqvs_ints, regOps, blt_dec, cond_true, cond_false, fieldAddrA, ty2, ty27, ty9, indexA, h, h2, hw]

theorem y12 (w t s N n b : Nat) (l : List UInt8) (most : Int) (σ : St) (h : s < N) (hb : cellsAt σ (.ptr 0 0) 1 = some [.int .i64 w]) (hw64 : wrapA .u64 (w : Int) = (w : Int)) (hp : wrapA .i64 (shlA (1 : Int) (min w IntKind.i64.bits)) = (N : Int)) :
    exI TT (FI.of Tryd.f12 (TT.an 12)) K12_0 [(1, .str l), (2, .ptr 0 0), (7, .sl b 0 n n), (8, .int .i64 most), (9, .int .i64 s)] σ = exI TT (FI.of Tryd.f12 (TT.an 12)) K12_1 [(1, .str l), (2, .ptr 0 0), (7, .sl b 0 n n), (8, .int .i64 most), (9, .int .i64 s), (10, .int .i64 0), (11, .int .i64 (endR w t 0 s : Nat)), (12, .int .i64 0)] σ := by
  have h' : (s : Int) < (N : Int) := by omega
  have h2 : ¬ N ≤ s := by omega
  rw [fi12]
  conv => lhs; rw [xl12_0]
  simp only [B12_0, b12, Tryd.f12, Option.getD, fstC, sndC, bodyC, thnC, elsC]
  simp [xI_seq, xI_region, xI_ret, regA, regOps, runOps, opStep, wantedA, opA, evo, evos, calleeA, lk, nif_eq, putE, paramsE, valS, val2, keepE, restrict, finA, resA, binA, binInt, ofConst, ofConst1, loadA, TK.isAgg, asVar, unA, builtinA, lenOpA, lenA, ileb_cast, ileb_eq, ieqb_dec, indexAddrA, inB_dec, evPairs, storeA, AV.cellsOf, pairsOf, xI_nil, binBool, gcE, evOpt, tagZ, xI_block, xI_loopH, xI_condM, xI_exitM, xI_skip, xI_blk, exitA, ty2, ty3, ty4, ty5, ty9, ty24, ty27, ty36, eK12_0_0, eK12_1_2, eK12_1_1, eK12_1_0, runTr, pairsOk, pairOk, lstAt, lastOf, sameVal, AV.eqv, eqvs, eqvs_ints, regOps, blt_dec, cond_true, cond_false, fieldAddrA, ty2, ty27, ty9, indexA, h', h2, hb, hp, hw64, convA, ty36]
  rfl
theorem z12 (w n b : Nat) (N : Nat) (l : List UInt8) (most : Int) (σ : St) (hb : cellsAt σ (.ptr 0 0) 1 = some [.int .i64 w]) (hw64 : wrapA .u64 (w : Int) = (w : Int)) (hp : wrapA .i64 (shlA (1 : Int) (min w IntKind.i64.bits)) = (N : Int)) : exI TT (FI.of Tryd.f12 (TT.an 12)) K12_0 [(1, .str l), (2, .ptr 0 0), (7, .sl b 0 n n), (8, .int .i64 most), (9, .int .i64 N)] σ = some (.tup [.sl b 0 n n, .int .i64 most, .bool true], σ) := by
  rw [fi12]
  conv => lhs; rw [xl12_0]
  simp only [B12_0, b12, Tryd.f12, Option.getD, fstC, sndC, bodyC, thnC, elsC]
  simp [xI_seq, xI_region, xI_ret, regA, regOps, runOps, opStep, wantedA, opA, evo, evos, calleeA, lk, nif_eq, putE, paramsE, valS, val2, keepE, restrict, finA, resA, binA, binInt, ofConst, ofConst1, loadA, TK.isAgg, asVar, unA, builtinA, lenOpA, lenA, ileb_cast, ileb_eq, ieqb_dec, indexAddrA, inB_dec, evPairs, storeA, AV.cellsOf, pairsOf, xI_nil, binBool, gcE, evOpt, tagZ, xI_block, xI_loopH, xI_condM, xI_exitM, xI_skip, xI_blk, exitA, ty2, ty3, ty4, ty5, ty9, ty24, ty27, ty36, eK12_0_0, eK12_1_2, eK12_1_1, eK12_1_0, runTr, pairsOk, pairOk, lstAt, lastOf, sameVal, AV.eqv, eqvs, eqvs_ints, regOps, blt_dec, cond_true, cond_false, fieldAddrA, ty2, ty27, ty9, indexA, hb, hp, hw64, convA, ty36]
  simp only [R12_0_0, b12, Tryd.f12, Option.getD, fstC, sndC, bodyC, thnC, elsC]
  simp [xI_seq, xI_region, xI_ret, regA, regOps, runOps, opStep, wantedA, opA, evo, evos, calleeA, lk, nif_eq, putE, paramsE, valS, val2, keepE, restrict, finA, resA, binA, binInt, ofConst, ofConst1, loadA, TK.isAgg, asVar, unA, builtinA, lenOpA, lenA, ileb_cast, ileb_eq, ieqb_dec, indexAddrA, inB_dec, evPairs, storeA, AV.cellsOf, pairsOf, xI_nil, binBool, gcE, evOpt, tagZ, xI_block, xI_loopH, xI_condM, xI_exitM, xI_skip, xI_blk, exitA, ty2, ty3, ty4, ty5, ty9, ty24, ty27, ty36, eK12_0_0, eK12_1_2, eK12_1_1, eK12_1_0]

theorem m12 (w t : Nat) (hw : w ≤ 10) (ht : t < 2 ^ w) (l : List UInt8) (hl : l.length ≤ 400) (hb : l.all isBit = true) : ∀ (m k : Nat) (σ : St) (b : Nat), k + m = 2 ^ w → Row σ b ((bestR w t l k).1) → σ.get 0 = some ⟨[.int .i64 w, .int .i64 t], 2, false⟩ → b ≠ 0 →
    ∃ σ' b' o, exI TT (FI.of Tryd.f12 (TT.an 12)) K12_0 [(1, .str l), (2, .ptr 0 0), (7, .sl b 0 (bestR w t l k).1.length (bestR w t l k).1.length), (8, .int .i64 (bestR w t l k).2), (9, .int .i64 k)] σ = some (.tup [.sl b' 0 (bestR w t l (2 ^ w)).1.length (bestR w t l (2 ^ w)).1.length, .int .i64 (bestR w t l (2 ^ w)).2, .bool true], σ') ∧ σ'.get b' = some ⟨ints (bestR w t l (2 ^ w)).1, 1, o⟩ := by
  have h10 : 2 ^ w ≤ 2 ^ 10 := Nat.pow_le_pow_right (by decide) hw
  intro m
  induction m with
  | zero =>
    intro k σ b hk hr h0 hb0
    obtain rfl : k = 2 ^ w := by omega
    obtain ⟨o, hg, _⟩ := hr
    exact ⟨σ, b, o, z12 w _ b (2 ^ w) l _ σ (by simp [cellsAt, h0, getCells, takeN, dropN]) (w_wrap .u64 (by simp only [topOf]; omega)) (pow_i w (by omega)), hg⟩
  | succ m ih =>
    intro k σ b hk hr h0 hb0
    obtain ⟨e1, e2, e3⟩ := bestR_len w t l k
    have hn0 := hr.lt
    have hwk := wrapS (n := k) (by omega)
    have hk1 : ((k + 1 : Nat) : Int) = (k : Int) + 1 := by omega
    have hst : bestR w t l (k + 1) = bst (bestR w t l k).1 (bestR w t l k).2 k (agC w t k l l.length) := rfl
    have hag := agC_le w t k l l.length
    have hstep := (y12 w t k (2 ^ w) (bestR w t l k).1.length b l (bestR w t l k).2 σ (by omega) (by simp [cellsAt, h0, getCells, takeN, dropN]) (w_wrap .u64 (by simp only [topOf]; omega)) (pow_i w (by omega))).trans (i12 w t k (by omega) (Nat.lt_of_lt_of_le ht (by omega)) (by omega) l hl hb (.sl b 0 (bestR w t l k).1.length (bestR w t l k).1.length) (bestR w t l k).2 σ h0 l.length 0 (by omega))
    generalize agC w t k l l.length = a at *
    by_cases hg : (bestR w t l k).2 < (a : Int)
    · rw [bst, if_pos hg] at hst
      have hr1 : Row (σ.push ⟨ints [], 1, false⟩) σ.n [] := Row.push
      obtain ⟨σ2, ha, hr2, hn2, hu⟩ := append_row (x := (k : Int)) ty24 ty2 hr1 (n := 0) rfl (by decide)
      obtain ⟨σ', b', o, q1, q2⟩ := ih (k + 1) σ2 (σ.n + 1 + 1) (by omega) (by rw [hst]; exact hr2) ((hu 0 (by omega) (by simp only [n_push]; omega)).trans ((get_push_lt (by omega)).trans h0)) (by omega)
      rw [hst, hk1] at q1
      exact ⟨σ', b', o, by rw [hstep]; exact (x12g w t k a _ b _ l _ σ σ2 hg ha hwk).trans q1, q2⟩
    · by_cases hq : (bestR w t l k).2 = (a : Int)
      · rw [bst, if_neg hg, if_pos hq] at hst
        obtain ⟨σ2, ha, hr2, hn2, hu⟩ := append_row (x := (k : Int)) ty24 ty2 hr (n := (bestR w t l k).1.length) rfl (by omega)
        obtain ⟨σ', b', o, q1, q2⟩ := ih (k + 1) σ2 (σ.n + 1) (by omega) (by rw [hst]; exact hr2) ((hu 0 (fun e => hb0 e.symm) (by omega)).trans h0) (by omega)
        rw [hst, hk1] at q1
        simp only [List.length_append, List.length_singleton] at q1
        exact ⟨σ', b', o, by rw [hstep]; exact (x12e w t k a _ b _ _ l _ σ σ2 hg hq.symm ha hwk).trans q1, q2⟩
      · rw [bst, if_neg hg, if_neg hq] at hst
        obtain ⟨σ', b', o, q1, q2⟩ := ih (k + 1) σ b (by omega) (by rw [hst]; exact hr) h0 hb0
        rw [hst, hk1] at q1
        exact ⟨σ', b', o, by rw [hstep]; exact (x12l w t k a _ b l _ σ hg (fun e => hq e.symm) hwk).trans q1, q2⟩

set_option maxHeartbeats 1000000 in
theorem r12 (w t : Int) (l : List UInt8) (hl : l.length < 1000000000) : FnP TT 12 [.agg [.int .i64 w, .int .i64 t], .str l] (bsR w t l) := by
  obtain ⟨σ, hσ⟩ : ∃ σ, (⟨[], 0⟩ : St).push ⟨[.int .i64 w, .int .i64 t], 2, false⟩ = σ := ⟨_, rfl⟩
  have hcp : cellsAt σ (.ptr 0 0) 1 = some [.int .i64 w] := by subst hσ; rfl
  have hg : σ.get 0 = some ⟨[.int .i64 w, .int .i64 t], 2, false⟩ := by subst hσ; rfl
  have hn : σ.n = 1 := by subst hσ; rfl
  have hv := c59 w t σ 0 _ hg rfl
  have hi : callI TT 60 [.str l] σ = some (.bool (isBits l), σ) := v60 l hl σ _ rfl
  cases hok : bsOk w t l with
  | false =>
    rw [bsR_no hok]
    refine FnP.mkN (c := Tryd.f12.body.getD .skip) fn12 rfl md12 ?_
    rw [fi12]
    simp only [Tryd.f12, Option.getD]
    cases h1 : vreg w t with
    | false =>
      rw [h1] at hv
      simp [xI_seq, xI_region, xI_ret, regA, regOps, runOps, opStep, wantedA, opA, evo, evos, calleeA, lk, nif_eq, putE, paramsE, valS, val2, keepE, restrict, finA, resA, binA, binInt, ofConst, ofConst1, loadA, TK.isAgg, asVar, unA, builtinA, lenOpA, lenA, ileb_cast, ileb_eq, ieqb_dec, indexAddrA, inB_dec, evPairs, storeA, AV.cellsOf, pairsOf, xI_nil, binBool, gcE, evOpt, tagZ, xI_block, xI_loopH, xI_condM, xI_exitM, xI_skip, xI_blk, exitA, ty2, ty3, ty4, ty5, ty9, ty24, ty27, ty36, eK12_0_0, eK12_1_2, eK12_1_1, eK12_1_0, runTr, pairsOk, pairOk, lstAt, lastOf, sameVal, AV.eqv, eqvs, eqvs_ints, regOps, blt_dec, cond_true, cond_false, fieldAddrA, ty2, ty27, ty9, indexA, allOne, AV.one, n_push, hσ, hcp, hv]
    | true =>
      rw [h1] at hv
      by_cases h2 : w ≤ 10
      · have h3 : isBits l = false := by simpa [bsOk, h1, h2] using hok
        rw [h3] at hi
        have h2' : ¬ 10 < w := by omega
        simp [xI_seq, xI_region, xI_ret, regA, regOps, runOps, opStep, wantedA, opA, evo, evos, calleeA, lk, nif_eq, putE, paramsE, valS, val2, keepE, restrict, finA, resA, binA, binInt, ofConst, ofConst1, loadA, TK.isAgg, asVar, unA, builtinA, lenOpA, lenA, ileb_cast, ileb_eq, ieqb_dec, indexAddrA, inB_dec, evPairs, storeA, AV.cellsOf, pairsOf, xI_nil, binBool, gcE, evOpt, tagZ, xI_block, xI_loopH, xI_condM, xI_exitM, xI_skip, xI_blk, exitA, ty2, ty3, ty4, ty5, ty9, ty24, ty27, ty36, eK12_0_0, eK12_1_2, eK12_1_1, eK12_1_0, runTr, pairsOk, pairOk, lstAt, lastOf, sameVal, AV.eqv, eqvs, eqvs_ints, regOps, blt_dec, cond_true, cond_false, fieldAddrA, ty2, ty27, ty9, indexA, allOne, AV.one, n_push, hσ, hcp, hv, hi, h2, h2']
      · have h2' : 10 < w := by omega
        simp [xI_seq, xI_region, xI_ret, regA, regOps, runOps, opStep, wantedA, opA, evo, evos, calleeA, lk, nif_eq, putE, paramsE, valS, val2, keepE, restrict, finA, resA, binA, binInt, ofConst, ofConst1, loadA, TK.isAgg, asVar, unA, builtinA, lenOpA, lenA, ileb_cast, ileb_eq, ieqb_dec, indexAddrA, inB_dec, evPairs, storeA, AV.cellsOf, pairsOf, xI_nil, binBool, gcE, evOpt, tagZ, xI_block, xI_loopH, xI_condM, xI_exitM, xI_skip, xI_blk, exitA, ty2, ty3, ty4, ty5, ty9, ty24, ty27, ty36, eK12_0_0, eK12_1_2, eK12_1_1, eK12_1_0, runTr, pairsOk, pairOk, lstAt, lastOf, sameVal, AV.eqv, eqvs, eqvs_ints, regOps, blt_dec, cond_true, cond_false, fieldAddrA, ty2, ty27, ty9, indexA, allOne, AV.one, n_push, hσ, hcp, hv, h2, h2']
  | true =>
    obtain ⟨k, m, rfl, rfl, hk, hm, hll, hb⟩ := bsOk_nat hok
    rw [bsR_yes hok]
    have hok2 := hok
    simp only [bsOk, Bool.and_eq_true] at hok2
    rw [hok2.1] at hv
    rw [hok2.2.2] at hi
    have h2 : (k : Int) ≤ 10 := by omega
    have h2' : ¬ (10 : Int) < k := by omega
    have hrow := Row.push (σ := σ) (l := ([] : List Int)) (o := false)
    rw [hn] at hrow
    obtain ⟨σ', b', o, q1, q2⟩ := m12 k m hk hm l hll hb (2 ^ k) 0 (σ.push ⟨ints [], 1, false⟩) 1 (by omega) hrow ((get_push_lt (by omega)).trans hg) (by decide)
    refine FnP.mkS (c := b12) fn12 rfl md12 ⟨σ', b', o, ?_, q2⟩
    rw [← q1, fi12]
    simp only [b12, Tryd.f12, Option.getD, fstC, sndC, bodyC, thnC, elsC]
    simp [xI_seq, xI_region, xI_ret, regA, regOps, runOps, opStep, wantedA, opA, evo, evos, calleeA, lk, nif_eq, putE, paramsE, valS, val2, keepE, restrict, finA, resA, binA, binInt, ofConst, ofConst1, loadA, TK.isAgg, asVar, unA, builtinA, lenOpA, lenA, ileb_cast, ileb_eq, ieqb_dec, indexAddrA, inB_dec, evPairs, storeA, AV.cellsOf, pairsOf, xI_nil, binBool, gcE, evOpt, tagZ, xI_block, xI_loopH, xI_condM, xI_exitM, xI_skip, xI_blk, exitA, ty2, ty3, ty4, ty5, ty9, ty24, ty27, ty36, eK12_0_0, eK12_1_2, eK12_1_1, eK12_1_0, runTr, pairsOk, pairOk, lstAt, lastOf, sameVal, AV.eqv, eqvs, eqvs_ints, regOps, blt_dec, cond_true, cond_false, fieldAddrA, ty2, ty27, ty9, indexA, allOne, AV.one, n_push, hσ, hn, hcp, hv, hi, h2, h2', bsI0]
    rfl

end Go.Proofs.YthkdbkjkccogfaaDoor
