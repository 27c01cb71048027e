/- The law of tempered words. Nothing is claimed here; no condition. -/
import Derived.Test.YthkdbkjkccogfaaXj
import Derived.Test.YthkdbkjkccogfaaGh
import Derived.Test.YthkdbkjkccogfaaWt
import Derived.Test.YthkdbkjkccogfaaWx
namespace Go.Proofs.Ythkdbkjkccogfaa
open Go Go.Abs
set_option linter.unusedSimpArgs false
set_option linter.unusedVariables false
open Go.Wd
theorem SRC.keep {σ σ' : St} {s : Nat} {l : List Nat} {k m : Nat} (h : SRC σ s l k m) (hn : σ.n ≤ σ'.n) (e : σ'.get s = σ.get s) : SRC σ' s l k m := ⟨Nat.lt_of_lt_of_le h.1 hn, by rw [e]; exact h.2.1, h.2.2⟩
def TMB (σ : St) (D : Nat) (a b c d e f : Int) : Prop := σ.get D = some ⟨tem a b c d e f, 6, false⟩
theorem TMB.keep {σ σ' : St} {D : Nat} {a b c d e f : Int} (h : TMB σ D a b c d e f) (k : σ'.get D = σ.get D) : TMB σ' D a b c d e f := by unfold TMB; rw [k]; exact h
theorem TMB.cc {σ : St} {D : Nat} {a b c d e f : Int} (h : TMB σ D a b c d e f) : cellsAt σ (.ptr D 0) 6 = some (tem a b c d e f) := by simp [cellsAt, (show σ.get D = _ from h), tem, getCells, takeN, dropN]

theorem TMB.s1 {σ : St} {D : Nat} {a b c d e f : Int} (h : TMB σ D a b c d e f) (x : Int) : ∃ σ', storeCellsA σ D 1 [.int .i64 x] = some σ' ∧ TMB σ' D a x c d e f ∧ σ'.n = σ.n ∧ ∀ q, q ≠ D → σ'.get q = σ.get q := by
  refine ⟨σ.set D ⟨tem a x c d e f, 6, false⟩, ?_, get_set_eq h, rfl, fun q hq => get_set_ne (fun e => hq e.symm)⟩
  simp [storeCellsA, (show σ.get D = _ from h), tem, putN, overN, allOne, AV.one]

theorem TMB.s2 {σ : St} {D : Nat} {a b c d e f : Int} (h : TMB σ D a b c d e f) (x : Int) : ∃ σ', storeCellsA σ D 2 [.int .i64 x] = some σ' ∧ TMB σ' D a b x d e f ∧ σ'.n = σ.n ∧ ∀ q, q ≠ D → σ'.get q = σ.get q := by
  refine ⟨σ.set D ⟨tem a b x d e f, 6, false⟩, ?_, get_set_eq h, rfl, fun q hq => get_set_ne (fun e => hq e.symm)⟩
  simp [storeCellsA, (show σ.get D = _ from h), tem, putN, overN, allOne, AV.one]

theorem TMB.s3 {σ : St} {D : Nat} {a b c d e f : Int} (h : TMB σ D a b c d e f) (x : Int) : ∃ σ', storeCellsA σ D 3 [.int .i64 x] = some σ' ∧ TMB σ' D a b c x e f ∧ σ'.n = σ.n ∧ ∀ q, q ≠ D → σ'.get q = σ.get q := by
  refine ⟨σ.set D ⟨tem a b c x e f, 6, false⟩, ?_, get_set_eq h, rfl, fun q hq => get_set_ne (fun e => hq e.symm)⟩
  simp [storeCellsA, (show σ.get D = _ from h), tem, putN, overN, allOne, AV.one]

theorem TMB.s4 {σ : St} {D : Nat} {a b c d e f : Int} (h : TMB σ D a b c d e f) (x : Int) : ∃ σ', storeCellsA σ D 4 [.int .i64 x] = some σ' ∧ TMB σ' D a b c d x f ∧ σ'.n = σ.n ∧ ∀ q, q ≠ D → σ'.get q = σ.get q := by
  refine ⟨σ.set D ⟨tem a b c d x f, 6, false⟩, ?_, get_set_eq h, rfl, fun q hq => get_set_ne (fun e => hq e.symm)⟩
  simp [storeCellsA, (show σ.get D = _ from h), tem, putN, overN, allOne, AV.one]

theorem TMB.s5 {σ : St} {D : Nat} {a b c d e f : Int} (h : TMB σ D a b c d e f) (x : Int) : ∃ σ', storeCellsA σ D 5 [.int .i64 x] = some σ' ∧ TMB σ' D a b c d e x ∧ σ'.n = σ.n ∧ ∀ q, q ≠ D → σ'.get q = σ.get q := by
  refine ⟨σ.set D ⟨tem a b c d e x, 6, false⟩, ?_, get_set_eq h, rfl, fun q hq => get_set_ne (fun e => hq e.symm)⟩
  simp [storeCellsA, (show σ.get D = _ from h), tem, putN, overN, allOne, AV.one]

theorem TMB.sa {σ : St} {D : Nat} {a b c d e f : Int} (h : TMB σ D a b c d e f) (a' b' c' d' e' f' : Int) : ∃ σ', storeCellsA σ D 0 [.int .i64 a', .int .i64 b', .int .i64 c', .int .i64 d', .int .i64 e', .int .i64 f'] = some σ' ∧ TMB σ' D a' b' c' d' e' f' ∧ σ'.n = σ.n ∧ ∀ q, q ≠ D → σ'.get q = σ.get q := by
  refine ⟨σ.set D ⟨tem a' b' c' d' e' f', 6, false⟩, ?_, get_set_eq h, rfl, fun q hq => get_set_ne (fun e => hq e.symm)⟩
  simp [storeCellsA, (show σ.get D = _ from h), tem, putN, overN, allOne, AV.one]
theorem TMB.new {σ : St} {D : Nat} (h : σ.n = D) : TMB (σ.push ⟨[.int .i64 0, .int .i64 0, .int .i64 0, .int .i64 0, .int .i64 0, .int .i64 0], 6, false⟩) D 0 0 0 0 0 0 := by
  have := get_push_same (σ := σ) (x := ⟨[.int .i64 0, .int .i64 0, .int .i64 0, .int .i64 0, .int .i64 0, .int .i64 0], 6, false⟩)
  rw [h] at this; exact this

set_option maxHeartbeats 2000000 in
theorem v10 (l : List Nat) (hl : ∀ x ∈ l, x < 256) (hll : l.length ≤ 1000) : ∃ a b c d e f : Nat, 1 ≤ a ∧ a ≤ 16 ∧ 1 ≤ b ∧ b ≤ 16 ∧ c ≤ 65535 ∧ 1 ≤ d ∧ d ≤ 16 ∧ e ≤ 65535 ∧ 1 ≤ f ∧ f ≤ 16 ∧ FnV TT 10 [.lst l.length (byts l)] (.agg (tem a b c d e f)) := by
  obtain ⟨σ1, e1⟩ : ∃ σ1, (⟨[], 0⟩ : St).push ⟨[.int .i64 0, .int .i64 0, .int .i64 0, .int .i64 0, .int .i64 0, .int .i64 0], 6, false⟩ = σ1 := ⟨_, rfl⟩
  have n1 : σ1.n = 1 := by subst e1; rfl
  have P1 : TMB σ1 0 0 0 0 0 0 0 := by subst e1; exact TMB.new rfl
  obtain ⟨σ2, c2, S2, n2, o2⟩ := c25 l σ1
  rw [n1] at c2 S2
  have P2 := P1.keep (o2.2 0 (by omega))
  obtain ⟨r0, k3, m3, σ3, c3, h0, S3, hk3, n3, u3⟩ := c26 l hl hll 0 0 (by decide) 16 (by decide) σ2 1 S2
  replace n3 : σ3.n = 2 := by omega
  have P3 := P2.keep (u3 0 (by decide))
  obtain ⟨σ4, e4⟩ : ∃ σ4, σ3.push ⟨[.int .i64 0, .int .i64 0, .int .i64 0, .int .i64 0, .int .i64 0, .int .i64 0], 6, false⟩ = σ4 := ⟨_, rfl⟩
  have n4 : σ4.n = 3 := by subst e4; show σ3.n + 1 = 3; omega
  have Q4 : TMB σ4 2 0 0 0 0 0 0 := by subst e4; exact TMB.new n3
  have w0 : wrapA .i64 (1 + (r0 : Int)) = ((1 + r0 : Nat) : Int) := by rw [wrapA_id (by omega) (by omega)]; omega
  obtain ⟨σ5, c5, Q5, n5, u5⟩ := Q4.sa ((1 + r0 : Nat) : Int) 0 0 0 0 0
  have S5 := S3.keep (σ' := σ5) (by omega) ((u5 1 (by decide)).trans (by subst e4; exact get_push_lt (by omega)))
  have P5 := P3.keep (σ' := σ5) ((u5 0 (by decide)).trans (by subst e4; exact get_push_lt (by omega)))
  obtain ⟨r1, k6, m6, σ6, c6, h1, S6, hk6, n6, u6⟩ := c26 l hl hll k3 m3 (by omega) 16 (by decide) σ5 1 S5
  have P6 := P5.keep (u6 0 (by decide))
  have Q6 := Q5.keep (u6 2 (by decide))
  have w1 : wrapA .i64 (1 + (r1 : Int)) = ((1 + r1 : Nat) : Int) := by rw [wrapA_id (by omega) (by omega)]; omega
  obtain ⟨σ7, c7, Q7, n7, u7⟩ := Q6.s1 ((1 + r1 : Nat) : Int)
  have S7 := S6.keep (σ' := σ7) (by omega) (u7 1 (by decide))
  have P7 := P6.keep (u7 0 (by decide))
  obtain ⟨r3, k8, m8, σ8, c8, h3, S8, hk8, n8, u8⟩ := c26 l hl hll k6 m6 (by omega) 16 (by decide) σ7 1 S7
  have P8 := P7.keep (u8 0 (by decide))
  have Q8 := Q7.keep (u8 2 (by decide))
  have w3 : wrapA .i64 (1 + (r3 : Int)) = ((1 + r3 : Nat) : Int) := by rw [wrapA_id (by omega) (by omega)]; omega
  obtain ⟨σ9, c9, Q9, n9, u9⟩ := Q8.s3 ((1 + r3 : Nat) : Int)
  have S9 := S8.keep (σ' := σ9) (by omega) (u9 1 (by decide))
  have P9 := P8.keep (u9 0 (by decide))
  obtain ⟨r5, k10, m10, σ10, c10, h5, S10, hk10, n10, u10⟩ := c26 l hl hll k8 m8 (by omega) 16 (by decide) σ9 1 S9
  have P10 := P9.keep (u10 0 (by decide))
  have Q10 := Q9.keep (u10 2 (by decide))
  have w5 : wrapA .i64 (1 + (r5 : Int)) = ((1 + r5 : Nat) : Int) := by rw [wrapA_id (by omega) (by omega)]; omega
  obtain ⟨σ11, c11, Q11, n11, u11⟩ := Q10.s5 ((1 + r5 : Nat) : Int)
  have S11 := S10.keep (σ' := σ11) (by omega) (u11 1 (by decide))
  have P11 := P10.keep (u11 0 (by decide))
  obtain ⟨r2, k12, m12, σ12, c12, h2, S12, hk12, n12, u12⟩ := c26 l hl hll k10 m10 (by omega) 65536 (by decide) σ11 1 S11
  have P12 := P11.keep (u12 0 (by decide))
  have Q12 := Q11.keep (u12 2 (by decide))
  obtain ⟨σ13, c13, Q13, n13, u13⟩ := Q12.s2 (r2 : Int)
  have S13 := S12.keep (σ' := σ13) (by omega) (u13 1 (by decide))
  have P13 := P12.keep (u13 0 (by decide))
  obtain ⟨r4, k14, m14, σ14, c14, h4, S14, hk14, n14, u14⟩ := c26 l hl hll k12 m12 (by omega) 65536 (by decide) σ13 1 S13
  have P14 := P13.keep (u14 0 (by decide))
  have Q14 := Q13.keep (u14 2 (by decide))
  obtain ⟨σ15, c15, Q15, n15, u15⟩ := Q14.s4 (r4 : Int)
  have S15 := S14.keep (σ' := σ15) (by omega) (u15 1 (by decide))
  have P15 := P14.keep (u15 0 (by decide))
  have g1 := Q15.cc
  obtain ⟨σ16, cL, PL, nL, uL⟩ := P15.sa ((1 + r0 : Nat) : Int) ((1 + r1 : Nat) : Int) (r2 : Int) ((1 + r3 : Nat) : Int) (r4 : Int) ((1 + r5 : Nat) : Int)
  have g2 := PL.cc
  refine ⟨1 + r0, 1 + r1, r2, 1 + r3, r4, 1 + r5, by omega, by omega, by omega, by omega, by omega, by omega, by omega, by omega, by omega, by omega, FnV.mk fn10 rfl md10 ⟨σ16, ?_⟩ (fun _ => rfl) rfl⟩
  simp only [show ((16 : Nat) : Int) = 16 from rfl, show ((65536 : Nat) : Int) = 65536 from rfl] at c3 c6 c8 c10 c12 c14
  clear Q4 Q5 Q6 Q7 Q8 Q9 P1 P2 P3
  generalize hz0 : ((1 + r0 : Nat) : Int) = z0 at *
  generalize hz1 : ((1 + r1 : Nat) : Int) = z1 at *
  generalize hz3 : ((1 + r3 : Nat) : Int) = z3 at *
  generalize hz5 : ((1 + r5 : Nat) : Int) = z5 at *
  simp only [tem] at g1 g2
  rw [fi10]
  simp [xI_seq, xI_region, xI_ret, regA, regOps, runOps, opStep, wantedA, opA, evo, evos, calleeA, lk, nif_eq, putE, paramsE, valS, val2, keepE, restrict, finA, resA, binA, binInt, ofConst, ofConst1, loadA, TK.isAgg, asVar, unA, builtinA, lenOpA, lenA, ileb_cast, ileb_eq, ieqb_dec, indexAddrA, inB_dec, evPairs, storeA, AV.cellsOf, pairsOf, xI_nil, binBool, gcE, evOpt, tagZ, xI_block, xI_loopH, xI_condM, xI_exitM, xI_skip, xI_blk, exitA, ty2, ty26, runTr, pairsOk, pairOk, lstAt, lastOf, sameVal, AV.eqv, eqvs, eqvs_ints, regOps, blt_dec, cond_true, cond_false, fieldAddrA, allOne, AV.one, buildA, sizesOf, fillA, putCells, n_push, tem, ty2, ty26, e1, n1, c2, c3, n3, w0, e4, c5, w1, c6, c7, w3, c8, c9, w5, c10, c11, c12, c13, c14, c15, g1, cL, g2]

open Go.Wd (unr unr_back unr_fore Mv mv_shr mv_shl)
theorem unrd_eq (mv : Nat → Nat) (z : Nat) : ∀ k, unrd mv z k = unr mv z k
  | 0 => rfl
  | k + 1 => by rw [unrd, unr, unrd_eq mv z k]; rfl
theorem undo_back {mv : Nat → Nat} (h : Mv mv) {y : Nat} (hy : y ≤ 65535) : undo mv (xorN y (mv y)) = y := (unrd_eq mv _ 16).trans (unr_back h hy)
theorem undo_fore {mv : Nat → Nat} (h : Mv mv) {z : Nat} (hz : z ≤ 65535) : xorN (undo mv z) (mv (undo mv z)) = z := by
  rw [show undo mv z = unr mv z 16 from unrd_eq mv z 16]; exact unr_fore h hz
theorem _root_.Go.Wd.Mv.x16 {mv : Nat → Nat} (h : Mv mv) {y : Nat} (hy : y ≤ 65535) : xorN y (mv y) ≤ 65535 := xor_16 hy (h.le y hy)
theorem mvd {k : Nat} (h : 1 ≤ k) : Mv (fun y => shrN y k) := mv_shr h
theorem mvu {k m : Nat} (h : 1 ≤ k) (hm : m ≤ 65535) : Mv (fun y => andN (shlN y k) m) := mv_shl h hm
theorem tw_16 {a b c d e f y : Nat} (ha : 1 ≤ a) (hb : 1 ≤ b) (hc : c ≤ 65535) (hd : 1 ≤ d) (he : e ≤ 65535) (hf : 1 ≤ f) (hy : y ≤ 65535) : tw a b c d e f y ≤ 65535 :=
  (mvd hf).x16 ((mvu hd he).x16 ((mvu hb hc).x16 ((mvd ha).x16 hy)))
theorem uw_16 {a b c d e f y : Nat} (ha : 1 ≤ a) (hb : 1 ≤ b) (hc : c ≤ 65535) (hd : 1 ≤ d) (he : e ≤ 65535) (hf : 1 ≤ f) (hy : y ≤ 65535) : uw a b c d e f y ≤ 65535 :=
  undo_16 (mvd ha).le (undo_16 (mvu hb hc).le (undo_16 (mvu hd he).le (undo_16 (mvd hf).le hy)))
/-- A word comes back from what it becomes. -/
theorem uw_tw {a b c d e f y : Nat} (ha : 1 ≤ a) (hb : 1 ≤ b) (hc : c ≤ 65535) (hd : 1 ≤ d) (he : e ≤ 65535) (hf : 1 ≤ f) (hy : y ≤ 65535) : uw a b c d e f (tw a b c d e f y) = y := by
  have h1 := (mvd ha).x16 hy
  have h2 := (mvu hb hc).x16 h1
  have h3 := (mvu hd he).x16 h2
  have e4 := undo_back (mvd hf) h3
  have e3 := undo_back (mvu hd he) h2
  have e2 := undo_back (mvu hb hc) h1
  have e1 := undo_back (mvd ha) hy
  simp only [uw, tw]
  rw [e4, e3, e2, e1]
theorem tw_uw {a b c d e f z : Nat} (ha : 1 ≤ a) (hb : 1 ≤ b) (hc : c ≤ 65535) (hd : 1 ≤ d) (he : e ≤ 65535) (hf : 1 ≤ f) (hz : z ≤ 65535) : tw a b c d e f (uw a b c d e f z) = z := by
  have l1 := undo_16 (mvd hf).le hz
  have l2 := undo_16 (mvu hd he).le l1
  have l3 := undo_16 (mvu hb hc).le l2
  have e1 := undo_fore (mvd ha) l3
  have e2 := undo_fore (mvu hb hc) l2
  have e3 := undo_fore (mvu hd he) l1
  have e4 := undo_fore (mvd hf) hz
  simp only [uw, tw]
  rw [e1, e2, e3, e4]
theorem vtem_of {a b c d e f : Nat} (a1 : 1 ≤ a) (a2 : a ≤ 16) (b1 : 1 ≤ b) (b2 : b ≤ 16) (c2 : c ≤ 65535) (d1 : 1 ≤ d) (d2 : d ≤ 16) (e2 : e ≤ 65535) (f1 : 1 ≤ f) (f2 : f ≤ 16) : vtem a b c d e f = true := by
  simp only [vtem, Bool.and_eq_true]
  exact ⟨⟨⟨⟨inR_iff.2 (by omega), inR_iff.2 (by omega)⟩, inR_iff.2 (by omega)⟩, inR_iff.2 (by omega)⟩, inR_iff.2 (by omega), inR_iff.2 (by omega)⟩
theorem vword_of {a b c d e f y : Nat} (h : vtem a b c d e f = true) (hy : y ≤ 65535) : vword a b c d e f y = true := by
  simp only [vword, h, Bool.true_and]; exact inR_iff.2 (by omega)

namespace TXG
theorem fn4 : TX.fn 4 = some Try.f4 := Go.Proofs.Ythkdbkjkccogfaa.fn4
theorem md4 : (TX.an 4).mode = 1 := Go.Proofs.Ythkdbkjkccogfaa.md4
theorem fi4 : FI.of Try.f4 (TX.an 4) = ⟨[.tmp 4], 93, [(0, [0, 1]), (1, [0, 1, 20]), (2, [4]), (3, [1, 5]), (4, [1, 5, 6]), (5, [5, 6, 7]), (6, [5, 6, 7, 8, 9]), (7, [5, 6, 7, 8, 9, 10, 11]), (8, [5, 6, 8, 9, 10, 11, 12, 13]), (9, [5, 6, 8, 9, 10, 11, 12, 13, 14, 15]), (10, [5, 6, 8, 9, 10, 11, 12, 13, 15, 16, 17]), (11, [4])], []⟩ := Go.Proofs.Ythkdbkjkccogfaa.fi4
theorem ty2 : TX.ty 2 = some ⟨.int .i64, 1, 8, [.int .i64 0]⟩ := Go.Proofs.Ythkdbkjkccogfaa.ty2
theorem ty4 : TX.ty 4 = some ⟨.bool, 1, 1, [.bool false]⟩ := Go.Proofs.Ythkdbkjkccogfaa.ty4
theorem ty5 : TX.ty 5 = some ⟨.int .u8, 1, 1, [.int .u8 0]⟩ := Go.Proofs.Ythkdbkjkccogfaa.ty5
theorem ty26 : TX.ty 26 = some ⟨.struct [(2, 0), (2, 1), (2, 2), (2, 3), (2, 4), (2, 5)], 6, 48, [.int .i64 0, .int .i64 0, .int .i64 0, .int .i64 0, .int .i64 0, .int .i64 0]⟩ := Go.Proofs.Ythkdbkjkccogfaa.ty26
theorem ty29 : TX.ty 29 = some ⟨.slice 5, 1, 24, [.nilS]⟩ := Go.Proofs.Ythkdbkjkccogfaa.ty29
set_option maxHeartbeats 4000000 in
theorem w4 (code : List Nat) (hb : ∀ x ∈ code, x < 256) (more_ : List Nat) (hm : ∀ x ∈ more_, x < 256) : FnV TX 4 [.lst code.length (byts code), .lst more_.length (byts more_)] (.bool true) := by
  refine FnV.mk fn4 rfl md4 ?_ (fun _ => rfl) rfl
  rw [fi4]
  have cl := more (v9 code more_ ⟨[], 0⟩ [.lst code.length (byts code), .lst more_.length (byts more_)] rfl)
  by_cases hlong : 48 < code.length ∨ 48 < more_.length
  · have e : (decide (48 < code.length) || decide (48 < more_.length)) = true := by simpa using hlong
    rw [e] at cl
    refine ⟨⟨[], 0⟩, ?_⟩
    simp [xI_seq, xI_region, xI_ret, regA, regOps, runOps, opStep, wantedA, opA, evo, evos, calleeA, lk, nif_eq, putE, paramsE, valS, val2, keepE, restrict, finA, resA, binA, binInt, ofConst, ofConst1, loadA, TK.isAgg, asVar, unA, builtinA, lenOpA, lenA, ileb_cast, ileb_eq, ieqb_dec, indexAddrA, inB_dec, evPairs, storeA, AV.cellsOf, pairsOf, xI_nil, binBool, gcE, evOpt, tagZ, xI_block, xI_loopH, xI_condM, xI_exitM, xI_skip, xI_blk, exitA, ty2, ty26, runTr, pairsOk, pairOk, lstAt, lastOf, sameVal, AV.eqv, eqvs, eqvs_ints, regOps, blt_dec, cond_true, cond_false, fieldAddrA, allOne, AV.one, buildA, sizesOf, fillA, putCells, n_push, tem, ty2, ty26, cl]
  · have e : (decide (48 < code.length) || decide (48 < more_.length)) = false := by simp; omega
    rw [e] at cl
    obtain ⟨a, b, c, d, e_, f_, a1, a2, b1, b2, c2, d1, d2, e2, f1, f2, vt⟩ := v10 code hb (by omega)
    have ct := more (vt ⟨[], 0⟩ [.lst code.length (byts code)] rfl)
    obtain ⟨σ1, e1⟩ : ∃ σ1, (⟨[], 0⟩ : St).push ⟨[.int .i64 0, .int .i64 0, .int .i64 0, .int .i64 0, .int .i64 0, .int .i64 0], 6, false⟩ = σ1 := ⟨_, rfl⟩
    have P1 : TMB σ1 0 0 0 0 0 0 0 := by subst e1; exact TMB.new rfl
    obtain ⟨σ, s1, P2, n2, _⟩ := P1.sa a b c d e_ f_
    have p2 := P2.cc
    obtain ⟨y, hy, vn⟩ := v11 more_ hm (by omega) 65536 (by decide)
    replace hy : y ≤ 65535 := by omega
    have cn := more (vn σ [.lst more_.length (byts more_), .int .i64 (65536 : Nat)] rfl)
    obtain ⟨s, hs, va⟩ := v12 more_ hm (by omega) 2 (by decide) 200 (by decide)
    replace hs : s < 200 := by omega
    have ca := more (va σ [.lst more_.length (byts more_), .int .i64 (2 : Nat), .int .i64 (200 : Nat)] rfl)
    have hv := vtem_of a1 a2 b1 b2 c2 d1 d2 e2 f1 f2
    obtain ⟨x, hx⟩ : ∃ x, x = (y + 1 + s) % 65536 := ⟨_, rfl⟩
    have hx2 : x ≤ 65535 := by omega
    have hxy : x ≠ y := by omega
    have t1 := tw_16 (b := b) (d := d) a1 b1 c2 d1 e2 f1 hy
    have t2 := uw_16 (b := b) (d := d) a1 b1 c2 d1 e2 f1 hy
    have b1' := uw_tw (b := b) (d := d) a1 b1 c2 d1 e2 f1 hy
    have b2' := tw_uw (b := b) (d := d) a1 b1 c2 d1 e2 f1 hy
    have b3' := uw_tw (b := b) (d := d) a1 b1 c2 d1 e2 f1 hx2
    have c1 := more (v13 a b c d e_ f_ y σ [.agg (tem a b c d e_ f_), .int .i64 y] rfl)
    rw [vword_of hv hy, twI_yes (vword_of hv hy)] at c1
    have c2' := cUW a b c d e_ f_ (tw a b c d e_ f_ y : Nat) σ
    rw [vword_of hv t1, uwI_yes (vword_of hv t1), b1'] at c2'
    have c3 := more (v13 a b c d e_ f_ x σ [.agg (tem a b c d e_ f_), .int .i64 x] rfl)
    rw [vword_of hv hx2, twI_yes (vword_of hv hx2)] at c3
    have c4 := cUW a b c d e_ f_ y σ
    rw [vword_of hv hy, uwI_yes (vword_of hv hy)] at c4
    have c5 := more (v13 a b c d e_ f_ (uw a b c d e_ f_ y : Nat) σ [.agg (tem a b c d e_ f_), .int .i64 (uw a b c d e_ f_ y : Nat)] rfl)
    rw [vword_of hv t2, twI_yes (vword_of hv t2), b2'] at c5
    have c6 := more (v14 a b c d e_ f_ σ [.agg (tem a b c d e_ f_)] rfl)
    rw [hv] at c6
    have hne : ¬ tw a b c d e_ f_ x = tw a b c d e_ f_ y := fun e => hxy (by rw [← b3', e, b1'])
    have hne' : ¬ ((tw a b c d e_ f_ x : Nat) : Int) = ((tw a b c d e_ f_ y : Nat) : Int) := fun e => hne (by omega)
    have hw1 : wrapA .i64 ((y : Int) + 1) = (y : Int) + 1 := wrapA_id (by omega) (by omega)
    have hw2 : wrapA .i64 ((y : Int) + 1 + (s : Int)) = ((y + 1 + s : Nat) : Int) := by rw [wrapA_id (by omega) (by omega)]; omega
    have hmod : ((y + 1 + s : Nat) : Int).tmod 65536 = (x : Int) := by rw [hx]; rfl
    clear b1' b2' b3' t1 t2 hx hv vt vn va hne
    simp only [show ((65536 : Nat) : Int) = 65536 from rfl] at cn
    simp only [show ((2 : Nat) : Int) = 2 from rfl, show ((200 : Nat) : Int) = 200 from rfl] at ca
    generalize y + 1 + s = ys at *
    generalize tw a b c d e_ f_ x = w at *
    generalize tw a b c d e_ f_ y = z at *
    generalize uw a b c d e_ f_ y = o at *
    simp only [tem] at ct c1 c2' c3 c4 c5 c6 p2
    refine ⟨σ, ?_⟩
    simp [xI_seq, xI_region, xI_ret, regA, regOps, runOps, opStep, wantedA, opA, evo, evos, calleeA, lk, nif_eq, putE, paramsE, valS, val2, keepE, restrict, finA, resA, binA, binInt, ofConst, ofConst1, loadA, TK.isAgg, asVar, unA, builtinA, lenOpA, lenA, ileb_cast, ileb_eq, ieqb_dec, indexAddrA, inB_dec, evPairs, storeA, AV.cellsOf, pairsOf, xI_nil, binBool, gcE, evOpt, tagZ, xI_block, xI_loopH, xI_condM, xI_exitM, xI_skip, xI_blk, exitA, ty2, ty26, runTr, pairsOk, pairOk, lstAt, lastOf, sameVal, AV.eqv, eqvs, eqvs_ints, regOps, blt_dec, cond_true, cond_false, fieldAddrA, allOne, AV.one, buildA, sizesOf, fillA, putCells, n_push, tem, ty2, ty26, cl, ct, e1, s1, p2, cn, ca, hw1, hw2, hmod, c1, c2', c3, c4, c5, c6, hne']
end TXG

end Go.Proofs.Ythkdbkjkccogfaa
