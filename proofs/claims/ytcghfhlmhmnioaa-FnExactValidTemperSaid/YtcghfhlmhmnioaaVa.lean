/- Contracts of the functions that test a temper. Nothing is claimed here; no condition. -/
import Derived.Test.YtcghfhlmhmnioaaHd
namespace Go.Proofs.Ytcghfhlmhmnioaa
open Go Go.Abs
set_option linter.unusedSimpArgs false
def inR (n lo hi : Int) : Bool := ileb lo n && ileb n hi
theorem c19 (n lo hi : Int) (σ : St) : callI TT 19 [.int .i64 n, .int .i64 lo, .int .i64 hi] σ = some (.bool (inR n lo hi), σ) := by
  refine cI_1 fn19 (σ1 := ⟨[], 0⟩) (args' := [.int .i64 n, .int .i64 lo, .int .i64 hi]) (v := .bool (inR n lo hi)) rfl md19 rfl ?_ rfl
  rw [fi19]
  cases h1 : ileb lo n <;> simp [xI_seq, xI_region, xI_ret, regA, regOps, runOps, opStep, wantedA, opA, evo, evos, calleeA, lk, nif_eq, putE, paramsE, valS, keepE, restrict, finA, resA, binA, binInt, ofConst, ofConst1, getCells, takeN, dropN, loadA, cellsAt, TK.isAgg, asVar, unA, inR, h1]
theorem c21 (n lo hi : Int) (σ : St) : callI TT 21 [.int .i64 n, .int .i64 lo, .int .i64 hi] σ = some (.bool (inR n lo hi), σ) := by
  refine cI_1 fn21 (σ1 := ⟨[], 0⟩) (args' := [.int .i64 n, .int .i64 lo, .int .i64 hi]) (v := .bool (inR n lo hi)) rfl md21 rfl ?_ rfl
  rw [fi21]
  cases h1 : ileb lo n <;> simp [xI_seq, xI_region, xI_ret, regA, regOps, runOps, opStep, wantedA, opA, evo, evos, calleeA, lk, nif_eq, putE, paramsE, valS, keepE, restrict, finA, resA, binA, binInt, ofConst, ofConst1, getCells, takeN, dropN, loadA, cellsAt, TK.isAgg, asVar, unA, inR, h1]
theorem c24 (n : Int) (σ : St) : callI TT 24 [.int .i64 n] σ = some (.bool (inR n 0 65535), σ) := by
  refine cI_1 fn24 (σ1 := ⟨[], 0⟩) (args' := [.int .i64 n]) (v := .bool (inR n 0 65535)) rfl md24 rfl ?_ rfl
  rw [fi24]
  simp [xI_seq, xI_region, xI_ret, regA, regOps, runOps, opStep, wantedA, opA, evo, evos, calleeA, lk, nif_eq, putE, paramsE, valS, keepE, restrict, finA, resA, binA, binInt, ofConst, ofConst1, getCells, takeN, dropN, loadA, cellsAt, TK.isAgg, asVar, unA, c19]
def six (a b c d e f : Int) : List AV := [.int .i64 a, .int .i64 b, .int .i64 c, .int .i64 d, .int .i64 e, .int .i64 f]
def okT (a b c d e f : Int) : Bool := inR a 1 16 && inR b 1 16 && inR d 1 16 && inR f 1 16 && inR c 0 65535 && inR e 0 65535
theorem c16 (a b c d e f : Int) (σ : St) (q : Nat) (x : Blk) (hq : σ.get q = some x) (hx : x.cells = six a b c d e f) : callI TT 16 [.ptr q 0] σ = some (.bool (okT a b c d e f), σ) := by
  rw [cI_0 fn16 rfl md16, fi16]
  unfold okT
  cases h1 : inR a 1 16 with
  | false => simp [xI_seq, xI_region, xI_ret, regA, regOps, runOps, opStep, wantedA, opA, evo, evos, calleeA, lk, nif_eq, putE, paramsE, valS, keepE, restrict, finA, resA, binA, binInt, ofConst, ofConst1, getCells, takeN, dropN, loadA, cellsAt, TK.isAgg, asVar, unA, c19, c24, hq, hx, six, fieldAddrA, ty25, ty2, h1]
  | true =>
    cases h2 : inR b 1 16 with
    | false => simp [xI_seq, xI_region, xI_ret, regA, regOps, runOps, opStep, wantedA, opA, evo, evos, calleeA, lk, nif_eq, putE, paramsE, valS, keepE, restrict, finA, resA, binA, binInt, ofConst, ofConst1, getCells, takeN, dropN, loadA, cellsAt, TK.isAgg, asVar, unA, c19, c24, hq, hx, six, fieldAddrA, ty25, ty2, h1, h2]
    | true =>
      cases h3 : inR d 1 16 with
      | false => simp [xI_seq, xI_region, xI_ret, regA, regOps, runOps, opStep, wantedA, opA, evo, evos, calleeA, lk, nif_eq, putE, paramsE, valS, keepE, restrict, finA, resA, binA, binInt, ofConst, ofConst1, getCells, takeN, dropN, loadA, cellsAt, TK.isAgg, asVar, unA, c19, c24, hq, hx, six, fieldAddrA, ty25, ty2, h1, h2, h3]
      | true =>
        cases h4 : inR f 1 16 with
        | false => simp [xI_seq, xI_region, xI_ret, regA, regOps, runOps, opStep, wantedA, opA, evo, evos, calleeA, lk, nif_eq, putE, paramsE, valS, keepE, restrict, finA, resA, binA, binInt, ofConst, ofConst1, getCells, takeN, dropN, loadA, cellsAt, TK.isAgg, asVar, unA, c19, c24, hq, hx, six, fieldAddrA, ty25, ty2, h1, h2, h3, h4]
        | true =>
          cases h5 : inR c 0 65535 with
          | false => simp [xI_seq, xI_region, xI_ret, regA, regOps, runOps, opStep, wantedA, opA, evo, evos, calleeA, lk, nif_eq, putE, paramsE, valS, keepE, restrict, finA, resA, binA, binInt, ofConst, ofConst1, getCells, takeN, dropN, loadA, cellsAt, TK.isAgg, asVar, unA, c19, c24, hq, hx, six, fieldAddrA, ty25, ty2, h1, h2, h3, h4, h5]
          | true =>
            simp [xI_seq, xI_region, xI_ret, regA, regOps, runOps, opStep, wantedA, opA, evo, evos, calleeA, lk, nif_eq, putE, paramsE, valS, keepE, restrict, finA, resA, binA, binInt, ofConst, ofConst1, getCells, takeN, dropN, loadA, cellsAt, TK.isAgg, asVar, unA, c19, c24, hq, hx, six, fieldAddrA, ty25, ty2, h1, h2, h3, h4, h5]
theorem c7 (a b c d e f : Int) (σ : St) : callI TT 7 [.agg (six a b c d e f)] σ = some (.bool (okT a b c d e f), σ) := by
  refine cI_1 fn7 (σ1 := ⟨[(0, ⟨six a b c d e f, 6, false⟩)], 1⟩) (args' := [.agg (six a b c d e f)]) (v := .bool (okT a b c d e f)) rfl md7 rfl ?_ rfl
  rw [fi7]
  have h := c16 a b c d e f ⟨[(0, ⟨six a b c d e f, 6, false⟩)], 1⟩ 0 ⟨six a b c d e f, 6, false⟩ rfl rfl
  have h0 : allOne (six a b c d e f) = true := rfl
  simp [xI_seq, xI_region, xI_ret, regA, regOps, runOps, opStep, wantedA, opA, evo, evos, calleeA, lk, nif_eq, putE, paramsE, valS, keepE, restrict, finA, resA, binA, binInt, ofConst, ofConst1, getCells, takeN, dropN, loadA, cellsAt, TK.isAgg, asVar, unA, ty25, AV.cellsOf, h0, St.push, h]
theorem c8 (a b c d e f : Int) (σ : St) : callI TT 8 [.agg (six a b c d e f)] σ = some (.agg (six a b c d e f), σ) := by
  refine cI_1 fn8 (σ1 := ⟨[(2, ⟨six a b c d e f, 6, false⟩), (1, ⟨six a b c d e f, 6, false⟩), (0, ⟨six a b c d e f, 6, false⟩)], 3⟩) (args' := [.agg (six a b c d e f)]) (v := .agg (six a b c d e f)) rfl md8 rfl ?_ rfl
  rw [fi8]
  have h0 : allOne (six a b c d e f) = true := rfl
  simp [xI_seq, xI_region, xI_ret, regA, regOps, runOps, opStep, wantedA, opA, evo, evos, calleeA, lk, nif_eq, putE, paramsE, valS, keepE, restrict, finA, resA, binA, binInt, ofConst, ofConst1, getCells, takeN, dropN, loadA, cellsAt, TK.isAgg, asVar, unA, ty25, ty23, ty2, AV.cellsOf, h0, St.push, six, fieldAddrA, St.get, hget, storeA, storeCellsA, allOne, AV.one, putN, overN, St.set, hset]
theorem c29 (n lo hi : Int) (σ : St) (p q : Nat) (x y : Blk) (hp : σ.get p = some x) (hx : x.cells = [.int .i64 lo]) (hq : σ.get q = some y) (hy : y.cells = [.int .i64 hi]) : callI TT 29 [.int .i64 n, .ptr p 0, .ptr q 0] σ = some (.bool (!inR n lo hi), σ) := by
  rw [cI_0 fn29 rfl md29, fi29]
  simp [xI_seq, xI_region, xI_ret, regA, regOps, runOps, opStep, wantedA, opA, evo, evos, calleeA, lk, nif_eq, putE, paramsE, valS, keepE, restrict, finA, resA, binA, binInt, ofConst, ofConst1, getCells, takeN, dropN, loadA, cellsAt, TK.isAgg, asVar, unA, c21, hp, hx, hq, hy, ty2]
noncomputable def b30 : Code := Try.f30.body.getD .skip
noncomputable def B30 : Code := bodyC (bodyC (sndC (fstC (sndC b30))))
noncomputable def R30 : Code := sndC (sndC b30)
theorem l30 (lo hi : Int) (σ : St) (p q : Nat) (x y : Blk) (hp : σ.get p = some x) (hx : x.cells = [.int .i64 lo]) (hq : σ.get q = some y) (hy : y.cells = [.int .i64 hi]) : ∀ (suf pre : List Int) (len : Nat), len = pre.length + suf.length → len < 1000000 →
    ∃ r, exI TT ⟨[.tmp 4], 19, (FI.of Try.f30 (TT.an 30)).keep, []⟩ [.lp B30, .blk 0, .code R30] [(0, .lst len (ints (pre ++ suf))), (1, .fn 29 [] [.ptr p 0, .ptr q 0]), (7, .int .i64 len), (8, .int .i64 pre.length)] σ = some (.int .i64 r, σ) ∧ ileb 0 r = suf.any fun n => !inR n lo hi := by
  rw [fi30]
  intro suf
  induction suf with
  | nil =>
    intro pre len hl hlen
    refine ⟨-1, ?_, rfl⟩
    have hl : len = pre.length := by simpa using hl
    subst hl
    rw [xI_lp]
    generalize hK : ([.lp B30, .blk 0, .code R30] : List It) = K
    have hE : exitA 0 K = some [.code R30] := by rw [← hK]; rfl
    simp only [B30, b30, Try.f30, Option.getD, fstC, sndC, bodyC]
    simp [xI_seq, xI_region, xI_ret, regA, regOps, runOps, opStep, wantedA, opA, evo, evos, calleeA, lk, nif_eq, putE, paramsE, valS, keepE, restrict, finA, resA, binA, binInt, ofConst, ofConst1, getCells, takeN, dropN, loadA, cellsAt, TK.isAgg, asVar, unA, xI_block, xI_loop, xI_condM, xI_exitM, xI_skip, xI_blk, exitA, hE, ileb_cast]
    simp only [R30, b30, Try.f30, Option.getD, fstC, sndC, bodyC]
    simp [xI_seq, xI_region, xI_ret, regA, regOps, runOps, opStep, wantedA, opA, evo, evos, calleeA, lk, nif_eq, putE, paramsE, valS, keepE, restrict, finA, resA, binA, binInt, ofConst, ofConst1, getCells, takeN, dropN, loadA, cellsAt, TK.isAgg, asVar, unA]
  | cons n suf ih =>
    intro pre len hl hlen
    have hl : len = pre.length + (suf.length + 1) := by simpa using hl
    obtain ⟨r, h1, h2⟩ := ih (pre ++ [n]) len (by simp; omega) hlen
    have hlt : pre.length < len := by omega
    have hle : ¬ len ≤ pre.length := by omega
    have hw := wrap_succ pre.length (by omega)
    have hg := getCells_at pre suf n
    have hc := c29 n lo hi σ p q x y hp hx hq hy
    rw [xI_lp]
    generalize hK : ([.lp B30, .blk 0, .code R30] : List It) = K at h1 ⊢
    have hE : exitA 0 K = some [.code R30] := by rw [← hK]; rfl
    simp only [List.append_assoc, List.singleton_append, List.length_append, List.length_singleton] at h1
    rw [show ((pre.length + 1 : Nat) : Int) = (pre.length : Int) + 1 from by omega] at h1
    simp only [B30, b30, Try.f30, Option.getD, fstC, sndC, bodyC]
    cases hin : inR n lo hi with
    | true =>
      rw [hin] at hc
      refine ⟨r, ?_, by simpa [hin] using h2⟩
      simp [xI_seq, xI_region, xI_ret, regA, regOps, runOps, opStep, wantedA, opA, evo, evos, calleeA, lk, nif_eq, putE, paramsE, valS, keepE, restrict, finA, resA, binA, binInt, ofConst, ofConst1, loadA, cellsAt, TK.isAgg, asVar, unA, xI_block, xI_loop, xI_condM, xI_exitM, xI_skip, xI_blk, exitA, hE, ileb_cast, hle, hlt, indexAddrA, ty36, ty2, ty3, inB_cast, hg, hc, hw, h1]
    | false =>
      rw [hin] at hc
      refine ⟨pre.length, ?_, by simp [hin, ileb_eq]⟩
      simp [xI_seq, xI_region, xI_ret, regA, regOps, runOps, opStep, wantedA, opA, evo, evos, calleeA, lk, nif_eq, putE, paramsE, valS, keepE, restrict, finA, resA, binA, binInt, ofConst, ofConst1, loadA, cellsAt, TK.isAgg, asVar, unA, xI_block, xI_loop, xI_condM, xI_exitM, xI_skip, xI_blk, exitA, hE, ileb_cast, hle, hlt, indexAddrA, ty36, ty2, ty3, inB_cast, hg, hc, hw]
theorem c30 (lo hi : Int) (σ : St) (p q : Nat) (x y : Blk) (hp : σ.get p = some x) (hx : x.cells = [.int .i64 lo]) (hq : σ.get q = some y) (hy : y.cells = [.int .i64 hi]) (l : List Int) (hl : l.length < 1000000) :
    ∃ r, callI TT 30 [.lst l.length (ints l), .fn 29 [] [.ptr p 0, .ptr q 0]] σ = some (.int .i64 r, σ) ∧ ileb 0 r = l.any fun n => !inR n lo hi := by
  obtain ⟨r, h1, h2⟩ := l30 lo hi σ p q x y hp hx hq hy l [] l.length (by simp) hl
  refine ⟨r, ?_, h2⟩
  rw [cI_0 fn30 rfl md30]
  rw [fi30] at h1 ⊢
  simp only [List.nil_append, List.length_nil] at h1
  simp [xI_seq, xI_region, xI_ret, regA, regOps, runOps, opStep, wantedA, opA, evo, evos, calleeA, lk, nif_eq, putE, paramsE, valS, keepE, restrict, finA, resA, binA, binInt, ofConst, ofConst1, getCells, takeN, dropN, loadA, cellsAt, TK.isAgg, asVar, unA, xI_block, xI_loopH, xI_condM, lenOpA, builtinA, ty36, lenA]
  exact h1
def allR (l : List Int) (lo hi : Int) : Bool := !(l.any fun n => !inR n lo hi)
theorem c28 (lo hi : Int) (σ : St) (p q : Nat) (x y : Blk) (hp : σ.get p = some x) (hx : x.cells = [.int .i64 lo]) (hq : σ.get q = some y) (hy : y.cells = [.int .i64 hi]) (l : List Int) (hl : l.length < 1000000) :
    callI TT 28 [.lst l.length (ints l), .fn 29 [] [.ptr p 0, .ptr q 0]] σ = some (.bool (l.any fun n => !inR n lo hi), σ) := by
  obtain ⟨r, h1, h2⟩ := c30 lo hi σ p q x y hp hx hq hy l hl
  rw [cI_0 fn28 rfl md28, fi28]
  simp [xI_seq, xI_region, xI_ret, regA, regOps, runOps, opStep, wantedA, opA, evo, evos, calleeA, lk, nif_eq, putE, paramsE, valS, keepE, restrict, finA, resA, binA, binInt, ofConst, ofConst1, getCells, takeN, dropN, loadA, cellsAt, TK.isAgg, asVar, unA, h1, h2]
theorem x17 (l : List Int) (lo hi : Int) (hl : l.length < 1000000) :
    exI TT (FI.of Try.f17 (TT.an 17)) [.code (Try.f17.body.getD .skip)] (paramsE 0 [.lst l.length (ints l), .int .i64 lo, .int .i64 hi]) ⟨[], 0⟩ = some (.bool (allR l lo hi), ⟨[(1, ⟨[.int .i64 hi], 1, false⟩), (0, ⟨[.int .i64 lo], 1, false⟩)], 2⟩) := by
  have h := c28 lo hi ⟨[(1, ⟨[.int .i64 hi], 1, false⟩), (0, ⟨[.int .i64 lo], 1, false⟩)], 2⟩ 0 1 _ _ rfl rfl rfl rfl l hl
  rw [fi17]
  simp only [Try.f17, Option.getD]
  simp [xI_seq, xI_region, xI_ret, regA, regOps, runOps, opStep, wantedA, opA, evo, evos, calleeA, lk, nif_eq, putE, paramsE, valS, keepE, restrict, finA, resA, binA, binInt, ofConst, ofConst1, getCells, takeN, dropN, loadA, cellsAt, TK.isAgg, asVar, unA, AV.cellsOf, allOne, AV.one, ty2, St.push, h, allR]
theorem frz_sl {d : Nat} {l : List Int} {σ : St} {b : Nat} {o : Bool} (hb : σ.get b = some ⟨ints l, 1, o⟩) : frzV σ (d + 2) (.sl b 0 l.length l.length) = some (.lst l.length (ints l)) := by
  have hc : getCells (ints l) 0 l.length = some (ints l) := by
    rw [getCells_eq, if_pos (by simp [ints]), List.drop_zero, List.take_of_length_le (by simp [ints])]
  unfold frzV
  simp only [hb, Nat.mul_one, hc, frz_ints, Nat.le_refl, if_true]
theorem c17s (l : List Int) (lo hi : Int) (hl : l.length < 1000000) (σ : St) (b : Nat) (o : Bool) (hb : σ.get b = some ⟨ints l, 1, o⟩) : callI TT 17 [.sl b 0 l.length l.length, .int .i64 lo, .int .i64 hi] σ = some (.bool (allR l lo hi), σ) := by
  refine cI_1 fn17 rfl md17 (args' := [.lst l.length (ints l), .int .i64 lo, .int .i64 hi]) ?_ (x17 l lo hi hl) rfl
  have hi2 : ∀ n, frzV σ 6 (.int .i64 n) = some (.int .i64 n) := fun _ => rfl
  simp only [mapO, frzDepth, frz_sl (d := 4) hb, hi2]
theorem c9 (a b c d e f : Int) (σ : St) : callI TT 9 [.agg (six a b c d e f)] σ = some (.bool (allR [a, b, d, f] 1 16 && allR [c, e] 0 65535), σ) := by
  rw [show (allR [a, b, d, f] 1 16 && allR [c, e] 0 65535) = (allR [a, b, d, f] 1 16 && allR [c, e] 0 65535) from rfl]
  have h0 : allOne (six a b c d e f) = true := rfl
  have k1 := c17s [a, b, d, f] 1 16 (by simp) ⟨[(1, ⟨ints [a, b, d, f], 1, false⟩), (0, ⟨six a b c d e f, 6, false⟩)], 2⟩ 1 false rfl
  have k2 := c17s [c, e] 0 65535 (by simp) ⟨[(2, ⟨ints [c, e], 1, false⟩), (1, ⟨ints [a, b, d, f], 1, false⟩), (0, ⟨six a b c d e f, 6, false⟩)], 3⟩ 2 false rfl
  cases h1 : allR [a, b, d, f] 1 16 with
  | false =>
    rw [h1] at k1
    simp only [ints, List.map_cons, List.map_nil, six, List.length_cons, List.length_nil] at k1
    refine cI_1 fn9 (σ1 := ⟨[(1, ⟨ints [a, b, d, f], 1, false⟩), (0, ⟨six a b c d e f, 6, false⟩)], 2⟩) rfl md9 (args' := [.agg (six a b c d e f)]) rfl (v := .bool false) ?_ rfl
    rw [fi9]
    simp [xI_seq, xI_region, xI_ret, regA, regOps, runOps, opStep, wantedA, opA, evo, evos, calleeA, lk, nif_eq, putE, paramsE, valS, keepE, restrict, finA, resA, binA, binInt, ofConst, ofConst1, getCells, takeN, dropN, loadA, cellsAt, TK.isAgg, asVar, unA, ty25, AV.cellsOf, allOne, AV.one, St.push, ty2, ty36, buildSliceA, evPairs, six, fieldAddrA, St.get, hget, fillA, repeatCells, putCells, ints, val2, k1]
  | true =>
    rw [h1] at k1
    simp only [ints, List.map_cons, List.map_nil, six, List.length_cons, List.length_nil] at k1 k2
    refine cI_1 fn9 (σ1 := ⟨[(2, ⟨ints [c, e], 1, false⟩), (1, ⟨ints [a, b, d, f], 1, false⟩), (0, ⟨six a b c d e f, 6, false⟩)], 3⟩) rfl md9 (args' := [.agg (six a b c d e f)]) rfl (v := .bool (allR [c, e] 0 65535)) ?_ rfl
    rw [fi9]
    simp [xI_seq, xI_region, xI_ret, regA, regOps, runOps, opStep, wantedA, opA, evo, evos, calleeA, lk, nif_eq, putE, paramsE, valS, keepE, restrict, finA, resA, binA, binInt, ofConst, ofConst1, getCells, takeN, dropN, loadA, cellsAt, TK.isAgg, asVar, unA, ty25, AV.cellsOf, allOne, AV.one, St.push, ty2, ty36, buildSliceA, evPairs, six, fieldAddrA, St.get, hget, fillA, repeatCells, putCells, ints, val2, k1, k2]
theorem okT_eq (a b c d e f : Int) : (allR [a, b, d, f] 1 16 && allR [c, e] 0 65535) = okT a b c d e f := by
  simp only [allR, okT, List.any_cons, List.any_nil]
  cases inR a 1 16 <;> cases inR b 1 16 <;> cases inR d 1 16 <;> cases inR f 1 16 <;> cases inR c 0 65535 <;> cases inR e 0 65535 <;> rfl
theorem c3 (a b c d e f : Int) (σ : St) : callI TT 3 [.agg (six a b c d e f)] σ = some (.bool true, σ) := by
  have k9 := c9 a b c d e f ⟨[(0, ⟨six a b c d e f, 6, false⟩)], 1⟩
  have k7 := c7 a b c d e f ⟨[(0, ⟨six a b c d e f, 6, false⟩)], 1⟩
  have k8 := c8 a b c d e f ⟨[(0, ⟨six a b c d e f, 6, false⟩)], 1⟩
  rw [okT_eq] at k9
  refine cI_1 fn3 (σ1 := ⟨[(0, ⟨six a b c d e f, 6, false⟩)], 1⟩) rfl md3 (args' := [.agg (six a b c d e f)]) rfl (v := .bool true) ?_ rfl
  rw [fi3]
  simp only [six] at k7 k8 k9
  simp [xI_seq, xI_region, xI_ret, regA, regOps, runOps, opStep, wantedA, opA, evo, evos, calleeA, lk, nif_eq, putE, paramsE, valS, keepE, restrict, finA, resA, binA, binInt, ofConst, ofConst1, getCells, takeN, dropN, loadA, cellsAt, TK.isAgg, asVar, unA, xI_condM, xI_skip, ty23, ty4, AV.cellsOf, allOne, AV.one, St.push, six, St.get, hget, k7, k8, k9, binBool]
end Go.Proofs.Ytcghfhlmhmnioaa
