/- Contracts: combined bits. Nothing is claimed here; no condition. -/
import Derived.Test.YthkdbkjkccogfaaDoorJb
namespace Go.Proofs.YthkdbkjkccogfaaDoor
open Go Go.Abs
set_option linter.unusedSimpArgs false
set_option linter.unusedVariables false
open Go.Wd
/-- Streams: texts of 32 bits. -/
def Strm (L : List (List UInt8)) : Prop := ∀ x ∈ L, x.length = 32 ∧ x.all isBit = true
theorem Strm.is {L : List (List UInt8)} (h : Strm L) {x : List UInt8} (hx : x ∈ L) : isBits x = true := by
  obtain ⟨h1, h2⟩ := h x hx
  simp [isBits, h1, h2]
/-- The bits of all streams at one place. -/
def sL (L : List (List UInt8)) (t : Nat) : Nat → Bool := fun i => bitf (L.getD i []) t
theorem sL_get {L : List (List UInt8)} {i : Nat} {x : List UInt8} (h : L[i]? = some x) (t : Nat) : sL L t i = bitf x t := by
  rw [sL, List.getD_eq_getElem?_getD, h]; rfl
def cbL (tb : List UInt8) (L : List (List UInt8)) : List UInt8 := txt 32 fun t => bitf tb (num (sL L t) L.length)
theorem num_or (s : Nat → Bool) (i : Nat) : orN (num s i) ((s i).toNat * 2 ^ i) = num s (i + 1) := by
  rw [num]
  cases s i with
  | false => show num s i ||| (0 * 2 ^ i) = _; simp
  | true =>
    show num s i ||| (1 * 2 ^ i) = _
    rw [Nat.one_mul, show true.toNat * 2 ^ i = 2 ^ i by simp, or_add (num_lt s i), Nat.or_comm]

theorem c90 {L : List (List UInt8)} {s0 x : List UInt8} (hL : Strm L) (h0 : L[0]? = some s0) (hx : x ∈ L) (σ : St) (hg : σ.get 0 = some ⟨[.lst L.length (strs L)], 1, false⟩) : callI TT 90 [.str x, .ptr 0 0] σ = some (.bool false, σ) := by
  have c1 := c63 x (by rw [(hL x hx).1]; decide) σ
  rw [hL.is hx] at c1
  have l1 := (hL x hx).1
  have l2 := (hL s0 (List.mem_of_getElem? h0)).1
  have hbx : cellsAt σ (.ptr 0 0) 1 = some [.lst L.length (strs L)] := by simp [cellsAt, hg, getCells, takeN, dropN]
  have r0 : ∀ σ : St, cellsAt σ (.lp (strs L) 0) 1 = some [.str s0] := fun σ => strs_read h0
  have hlen : 0 < L.length := (List.getElem?_eq_some_iff.1 h0).1
  have hle : ¬ L.length ≤ 0 := by omega
  have hlz : ¬ L.length = 0 := by omega
  generalize L.length = n at *
  clear hg hL h0 hx
  rw [cI_0 fn90 rfl md90, fi90]
  simp [xI_seq, xI_region, xI_ret, regA, regOps, runOps, opStep, wantedA, opA, evo, evos, calleeA, lk, nif_eq, putE, paramsE, valS, val2, keepE, restrict, finA, resA, binA, binInt, ofConst, ofConst1, loadA, TK.isAgg, asVar, unA, builtinA, lenOpA, lenA, ileb_cast, ileb_eq, ieqb_dec, indexAddrA, inB_dec, evPairs, storeA, AV.cellsOf, pairsOf, xI_nil, binBool, gcE, evOpt, tagZ, xI_block, xI_loopH, xI_condM, xI_exitM, xI_skip, xI_blk, exitA, ty3, ty4, ty9, ty67, runTr, pairsOk, pairOk, lstAt, lastOf, sameVal, AV.eqv, eqvs, eqvs_ints, regOps, blt_dec, cond_true, cond_false, fieldAddrA, allOne, AV.one, buildA, sizesOf, fillA, putCells, n_push, indexA, ty2, ty27, ty9, ty5, ty3, ty36, ty67, c1, l1, l2, hbx, r0, hlen, hle, hlz]

noncomputable def b131 : Code := Tryd.f131.body.getD .skip
noncomputable def B131_0 : Code := (bodyC (bodyC (sndC (fstC (sndC b131)))))
noncomputable def K131_0 : List It := .lp B131_0 :: .blk 0 :: .code (sndC (sndC b131)) :: []
theorem xl131_0 {fi : FI} {env : Env} {σ : St} : exI TT fi K131_0 env σ = exI TT fi (.code B131_0 :: K131_0) env σ := by unfold K131_0; exact xI_lp
noncomputable def R131_0_0 : List It := .code (sndC (sndC b131)) :: []
theorem eK131_0_0 : exitA 0 K131_0 = some R131_0_0 := rfl
theorem l131 {L : List (List UInt8)} {s0 : List UInt8} (hL : Strm L) (h4 : L.length ≤ 4) (h0 : L[0]? = some s0) (σ : St) (hg : σ.get 0 = some ⟨[.lst L.length (strs L)], 1, false⟩) : ∀ (suf : List (List UInt8)) (i : Nat), L.drop i = suf → i ≤ L.length →
    exI TT (FI.of Tryd.f131 (TT.an 131)) K131_0 [(0, .lst L.length (strs L)), (1, .fn 90 [] [.ptr 0 0]), (7, .int .i64 L.length), (8, .int .i64 i)] σ = some (.int .i64 (-1), σ) := by
  intro suf
  induction suf with
  | nil =>
    intro i hd hi
    have : (L.drop i).length = 0 := by rw [hd]; rfl
    rw [List.length_drop] at this
    obtain rfl : i = L.length := by omega
    generalize L.length = n at *
    rw [fi131]
    rw [xl131_0]
    simp only [B131_0, b131, Tryd.f131, Option.getD, fstC, sndC, bodyC, thnC, elsC]
    simp [xI_seq, xI_region, xI_ret, regA, regOps, runOps, opStep, wantedA, opA, evo, evos, calleeA, lk, nif_eq, putE, paramsE, valS, val2, keepE, restrict, finA, resA, binA, binInt, ofConst, ofConst1, loadA, TK.isAgg, asVar, unA, builtinA, lenOpA, lenA, ileb_cast, ileb_eq, ieqb_dec, indexAddrA, inB_dec, evPairs, storeA, AV.cellsOf, pairsOf, xI_nil, binBool, gcE, evOpt, tagZ, xI_block, xI_loopH, xI_condM, xI_exitM, xI_skip, xI_blk, exitA, ty3, ty9, ty67, eK131_0_0]
    simp only [R131_0_0, b131, Tryd.f131, Option.getD, fstC, sndC, bodyC, thnC, elsC]
    simp [xI_seq, xI_region, xI_ret, regA, regOps, runOps, opStep, wantedA, opA, evo, evos, calleeA, lk, nif_eq, putE, paramsE, valS, val2, keepE, restrict, finA, resA, binA, binInt, ofConst, ofConst1, loadA, TK.isAgg, asVar, unA, builtinA, lenOpA, lenA, ileb_cast, ileb_eq, ieqb_dec, indexAddrA, inB_dec, evPairs, storeA, AV.cellsOf, pairsOf, xI_nil, binBool, gcE, evOpt, tagZ, xI_block, xI_loopH, xI_condM, xI_exitM, xI_skip, xI_blk, exitA, ty3, ty9, ty67, eK131_0_0]
  | cons x suf ih =>
    intro i hd hi
    obtain ⟨d1, d2, d3⟩ := dp1 hd
    have h1 := ih (i + 1) d3 d1
    have c1 := c90 hL h0 (List.mem_of_getElem? d2) σ hg
    have r1 : ∀ σ : St, cellsAt σ (.lp (strs L) i) 1 = some [.str x] := fun σ => strs_read d2
    have hlt : (i : Int) < (L.length : Int) := by omega
    have hnl : ¬ (L.length ≤ i) := by omega
    have hw : wrapA .i64 ((i : Int) + 1) = (i : Int) + 1 := wrapA_id (by omega) (by omega)
    rw [show ((i + 1 : Nat) : Int) = (i : Int) + 1 by omega] at h1
    rw [← h1]
    clear h1 ih hg
    generalize L.length = n at *
    rw [fi131]
    conv => lhs; rw [xl131_0]
    simp only [B131_0, b131, Tryd.f131, Option.getD, fstC, sndC, bodyC, thnC, elsC]
    simp [xI_seq, xI_region, xI_ret, regA, regOps, runOps, opStep, wantedA, opA, evo, evos, calleeA, lk, nif_eq, putE, paramsE, valS, val2, keepE, restrict, finA, resA, binA, binInt, ofConst, ofConst1, loadA, TK.isAgg, asVar, unA, builtinA, lenOpA, lenA, ileb_cast, ileb_eq, ieqb_dec, indexAddrA, inB_dec, evPairs, storeA, AV.cellsOf, pairsOf, xI_nil, binBool, gcE, evOpt, tagZ, xI_block, xI_loopH, xI_condM, xI_exitM, xI_skip, xI_blk, exitA, ty3, ty9, ty67, eK131_0_0, hlt, hnl, d1, hw, r1, c1]
theorem c131 {L : List (List UInt8)} {s0 : List UInt8} (hL : Strm L) (h4 : L.length ≤ 4) (h0 : L[0]? = some s0) (σ : St) (hg : σ.get 0 = some ⟨[.lst L.length (strs L)], 1, false⟩) : callI TT 131 [.lst L.length (strs L), .fn 90 [] [.ptr 0 0]] σ = some (.int .i64 (-1), σ) := by
  have h := l131 hL h4 h0 σ hg L 0 rfl (Nat.zero_le _)
  rw [cI_0 fn131 rfl md131, ← h, fi131]
  simp [xI_seq, xI_region, xI_ret, regA, regOps, runOps, opStep, wantedA, opA, evo, evos, calleeA, lk, nif_eq, putE, paramsE, valS, val2, keepE, restrict, finA, resA, binA, binInt, ofConst, ofConst1, loadA, TK.isAgg, asVar, unA, builtinA, lenOpA, lenA, ileb_cast, ileb_eq, ieqb_dec, indexAddrA, inB_dec, evPairs, storeA, AV.cellsOf, pairsOf, xI_nil, binBool, gcE, evOpt, tagZ, xI_block, xI_loopH, xI_condM, xI_exitM, xI_skip, xI_blk, exitA, ty3, ty9, ty67, eK131_0_0]
  rfl
theorem c131n (σ : St) : callI TT 131 [.lst 0 [], .fn 90 [] [.ptr 0 0]] σ = some (.int .i64 (-1), σ) := by
  rw [cI_0 fn131 rfl md131, fi131]
  simp [xI_seq, xI_region, xI_ret, regA, regOps, runOps, opStep, wantedA, opA, evo, evos, calleeA, lk, nif_eq, putE, paramsE, valS, val2, keepE, restrict, finA, resA, binA, binInt, ofConst, ofConst1, loadA, TK.isAgg, asVar, unA, builtinA, lenOpA, lenA, ileb_cast, ileb_eq, ieqb_dec, indexAddrA, inB_dec, evPairs, storeA, AV.cellsOf, pairsOf, xI_nil, binBool, gcE, evOpt, tagZ, xI_block, xI_loopH, xI_condM, xI_exitM, xI_skip, xI_blk, exitA, ty3, ty9, ty67, eK131_0_0]
  rw [← fi131]
  show exI TT (FI.of Tryd.f131 (TT.an 131)) K131_0 _ σ = _
  rw [fi131, xl131_0]
  simp only [B131_0, b131, Tryd.f131, Option.getD, fstC, sndC, bodyC, thnC, elsC]
  simp [xI_seq, xI_region, xI_ret, regA, regOps, runOps, opStep, wantedA, opA, evo, evos, calleeA, lk, nif_eq, putE, paramsE, valS, val2, keepE, restrict, finA, resA, binA, binInt, ofConst, ofConst1, loadA, TK.isAgg, asVar, unA, builtinA, lenOpA, lenA, ileb_cast, ileb_eq, ieqb_dec, indexAddrA, inB_dec, evPairs, storeA, AV.cellsOf, pairsOf, xI_nil, binBool, gcE, evOpt, tagZ, xI_block, xI_loopH, xI_condM, xI_exitM, xI_skip, xI_blk, exitA, ty3, ty9, ty67, eK131_0_0]
  simp only [R131_0_0, b131, Tryd.f131, Option.getD, fstC, sndC, bodyC, thnC, elsC]
  simp [xI_seq, xI_region, xI_ret, regA, regOps, runOps, opStep, wantedA, opA, evo, evos, calleeA, lk, nif_eq, putE, paramsE, valS, val2, keepE, restrict, finA, resA, binA, binInt, ofConst, ofConst1, loadA, TK.isAgg, asVar, unA, builtinA, lenOpA, lenA, ileb_cast, ileb_eq, ieqb_dec, indexAddrA, inB_dec, evPairs, storeA, AV.cellsOf, pairsOf, xI_nil, binBool, gcE, evOpt, tagZ, xI_block, xI_loopH, xI_condM, xI_exitM, xI_skip, xI_blk, exitA, ty3, ty9, ty67, eK131_0_0]

theorem c89 {L : List (List UInt8)} {s0 : List UInt8} (hL : Strm L) (h4 : L.length ≤ 4) (h0 : L[0]? = some s0) (σ : St) (hg : σ.get 0 = some ⟨[.lst L.length (strs L)], 1, false⟩) : callI TT 89 [.lst L.length (strs L), .fn 90 [] [.ptr 0 0]] σ = some (.bool false, σ) := by
  have h := c131 hL h4 h0 σ hg
  rw [cI_0 fn89 rfl md89, fi89]
  simp [xI_seq, xI_region, xI_ret, regA, regOps, runOps, opStep, wantedA, opA, evo, evos, calleeA, lk, nif_eq, putE, paramsE, valS, val2, keepE, restrict, finA, resA, binA, binInt, ofConst, ofConst1, loadA, TK.isAgg, asVar, unA, builtinA, lenOpA, lenA, ileb_cast, ileb_eq, ieqb_dec, indexAddrA, inB_dec, evPairs, storeA, AV.cellsOf, pairsOf, xI_nil, binBool, gcE, evOpt, tagZ, xI_block, xI_loopH, xI_condM, xI_exitM, xI_skip, xI_blk, exitA, ty3, h]
theorem c89n (σ : St) : callI TT 89 [.lst 0 [], .fn 90 [] [.ptr 0 0]] σ = some (.bool false, σ) := by
  have h := c131n σ
  rw [cI_0 fn89 rfl md89, fi89]
  simp [xI_seq, xI_region, xI_ret, regA, regOps, runOps, opStep, wantedA, opA, evo, evos, calleeA, lk, nif_eq, putE, paramsE, valS, val2, keepE, restrict, finA, resA, binA, binInt, ofConst, ofConst1, loadA, TK.isAgg, asVar, unA, builtinA, lenOpA, lenA, ileb_cast, ileb_eq, ieqb_dec, indexAddrA, inB_dec, evPairs, storeA, AV.cellsOf, pairsOf, xI_nil, binBool, gcE, evOpt, tagZ, xI_block, xI_loopH, xI_condM, xI_exitM, xI_skip, xI_blk, exitA, ty3, h]

theorem v88 (n : Nat) (hn : n ≤ 1000) (c : List AV) : FnV TT 88 [.lst n c] (.int .i64 n) := by
  have hw : wrapA .i64 (n : Int) = (n : Int) := wrapA_id (by omega) (by omega)
  refine FnV.mk fn88 rfl md88 ⟨⟨[], 0⟩, ?_⟩ (fun _ => rfl) rfl
  rw [fi88]
  simp [xI_seq, xI_region, xI_ret, regA, regOps, runOps, opStep, wantedA, opA, evo, evos, calleeA, lk, nif_eq, putE, paramsE, valS, val2, keepE, restrict, finA, resA, binA, binInt, ofConst, ofConst1, loadA, TK.isAgg, asVar, unA, builtinA, lenOpA, lenA, ileb_cast, ileb_eq, ieqb_dec, indexAddrA, inB_dec, evPairs, storeA, AV.cellsOf, pairsOf, xI_nil, binBool, gcE, evOpt, tagZ, xI_block, xI_loopH, xI_condM, xI_exitM, xI_skip, xI_blk, exitA, ty9, ty67, hw, convA, ty2]

noncomputable def b43 : Code := Tryd.f43.body.getD .skip
noncomputable def B43_0 : Code := (bodyC (bodyC (sndC (fstC (sndC (sndC (sndC (sndC b43))))))))
noncomputable def K43_0 : List It := .lp B43_0 :: .blk 0 :: .code (sndC (sndC (sndC (sndC (sndC b43))))) :: []
theorem xl43_0 {fi : FI} {env : Env} {σ : St} : exI TT fi K43_0 env σ = exI TT fi (.code B43_0 :: K43_0) env σ := by unfold K43_0; exact xI_lp
noncomputable def R43_0_0 : List It := .code (sndC (sndC (sndC (sndC (sndC b43))))) :: []
theorem eK43_0_0 : exitA 0 K43_0 = some R43_0_0 := rfl
noncomputable def B43_1 : Code := (bodyC (bodyC (sndC (fstC (sndC (bodyC (fstC (sndC (bodyC (bodyC (sndC (fstC (sndC (sndC (sndC (sndC b43))))))))))))))))
noncomputable def K43_1 : List It := .lp B43_1 :: .blk 2 :: .code (sndC (sndC (bodyC (fstC (sndC (bodyC (bodyC (sndC (fstC (sndC (sndC (sndC (sndC b43))))))))))))) :: .blk 1 :: .code (sndC (sndC (bodyC (bodyC (sndC (fstC (sndC (sndC (sndC (sndC b43)))))))))) :: K43_0
theorem xl43_1 {fi : FI} {env : Env} {σ : St} : exI TT fi K43_1 env σ = exI TT fi (.code B43_1 :: K43_1) env σ := by unfold K43_1; exact xI_lp
noncomputable def R43_1_2 : List It := .code (sndC (sndC (bodyC (fstC (sndC (bodyC (bodyC (sndC (fstC (sndC (sndC (sndC (sndC b43))))))))))))) :: .blk 1 :: .code (sndC (sndC (bodyC (bodyC (sndC (fstC (sndC (sndC (sndC (sndC b43)))))))))) :: K43_0
theorem eK43_1_2 : exitA 2 K43_1 = some R43_1_2 := rfl
noncomputable def R43_1_1 : List It := .code (sndC (sndC (bodyC (bodyC (sndC (fstC (sndC (sndC (sndC (sndC b43)))))))))) :: K43_0
theorem eK43_1_1 : exitA 1 K43_1 = some R43_1_1 := rfl
theorem eK43_1_0 : exitA 0 K43_1 = some R43_0_0 := rfl
theorem l43_in (tb : List UInt8) {L : List (List UInt8)} (hL : Strm L) (h4 : L.length ≤ 4) (t : Nat) (ht : t < 32) (σ : St) : ∀ (suf : List (List UInt8)) (i : Nat), L.drop i = suf → i ≤ L.length →
    exI TT (FI.of Tryd.f43 (TT.an 43)) K43_1 [(0, .str tb), (3, .ptr 0 0), (6, .ptr 1 0), (7, .int .i64 t), (8, .int .i64 (num (sL L t) i : Nat)), (37, .lst L.length (strs L)), (38, .int .i64 L.length), (39, .int .i64 i)] σ = exI TT (FI.of Tryd.f43 (TT.an 43)) R43_1_2 [(0, .str tb), (3, .ptr 0 0), (6, .ptr 1 0), (7, .int .i64 t), (8, .int .i64 (num (sL L t) L.length : Nat)), (37, .lst L.length (strs L)), (38, .int .i64 L.length), (39, .int .i64 L.length), (40, .bool false)] σ := by
  intro suf
  induction suf with
  | nil =>
    intro i hd hi
    have : (L.drop i).length = 0 := by rw [hd]; rfl
    rw [List.length_drop] at this
    obtain rfl : i = L.length := by omega
    generalize num (sL L t) L.length = x at *
    generalize L.length = n at *
    rw [fi43]
    conv => lhs; rw [xl43_1]
    simp only [B43_1, b43, Tryd.f43, Option.getD, fstC, sndC, bodyC, thnC, elsC]
    simp [xI_seq, xI_region, xI_ret, regA, regOps, runOps, opStep, wantedA, opA, evo, evos, calleeA, lk, nif_eq, putE, paramsE, valS, val2, keepE, restrict, finA, resA, binA, binInt, ofConst, ofConst1, loadA, TK.isAgg, asVar, unA, builtinA, lenOpA, lenA, ileb_cast, ileb_eq, ieqb_dec, indexAddrA, inB_dec, evPairs, storeA, AV.cellsOf, pairsOf, xI_nil, binBool, gcE, evOpt, tagZ, xI_block, xI_loopH, xI_condM, xI_exitM, xI_skip, xI_blk, exitA, ty2, ty3, ty4, ty5, ty9, ty67, ty117, eK43_0_0, eK43_1_2, eK43_1_1, eK43_1_0]
  | cons s suf ih =>
    intro i hd hi
    obtain ⟨d1, d2, d3⟩ := dp1 hd
    rw [← ih (i + 1) d3 d1]
    have r1 : ∀ σ : St, cellsAt σ (.lp (strs L) i) 1 = some [.str s] := fun σ => strs_read d2
    obtain ⟨e1, e2⟩ := hL s (List.mem_of_getElem? d2)
    have hb : s[t]? = some (bb (bitf s t).toNat) := bit_get e2 (by omega)
    have hlt : (i : Int) < (L.length : Int) := by omega
    have hnl : ¬ (L.length ≤ i) := by omega
    have hw : wrapA .i64 ((i : Int) + 1) = (i : Int) + 1 := wrapA_id (by omega) (by omega)
    have hN := num_lt (sL L t) i
    have hN2 : 2 ^ i ≤ 2 ^ 4 := Nat.pow_le_pow_right (by decide) (by omega)
    have q := num_or (sL L t) i
    rw [sL_get d2] at q
    have hq : (bitf s t).toNat * 2 ^ i ≤ 1 * 2 ^ 4 := Nat.mul_le_mul (by cases bitf s t <;> decide) hN2
    have s1 := sh_l (a := (bitf s t).toNat) (b := i) (by omega) (by omega)
    have s2 := n_or (a := num (sL L t) i) (b := (bitf s t).toNat * 2 ^ i) (by omega) (by omega)
    rw [q] at s2
    have w1 : ∀ v : Bool, wrapA .u8 (((bb v.toNat).toNat : Nat) - 48 : Int) = (v.toNat : Nat) := by intro v; cases v <;> rfl
    have w2 : ∀ v : Bool, wrapA .i64 ((v.toNat : Nat) : Int) = (v.toNat : Nat) := by intro v; cases v <;> rfl
    have w1' := w1 (bitf s t)
    have w2' := w2 (bitf s t)
    rw [show ((i + 1 : Nat) : Int) = (i : Int) + 1 by omega]
    have hpos : ¬ (i : Int) < 0 := by omega
    rw [show shlN (bitf s t).toNat i = (bitf s t).toNat * 2 ^ i from rfl] at s1
    clear ih q hq hN hN2 w1 w2 hd d3
    generalize num (sL L t) (i + 1) = x2 at *
    generalize num (sL L t) i = x1 at *
    generalize (bitf s t).toNat * 2 ^ i = y at *
    generalize (bb (bitf s t).toNat) = letter at *
    generalize (bitf s t).toNat = v at *
    generalize L.length = n at *
    rw [fi43]
    conv => lhs; rw [xl43_1]
    simp only [B43_1, b43, Tryd.f43, Option.getD, fstC, sndC, bodyC, thnC, elsC]
    simp [xI_seq, xI_region, xI_ret, regA, regOps, runOps, opStep, wantedA, opA, evo, evos, calleeA, lk, nif_eq, putE, paramsE, valS, val2, keepE, restrict, finA, resA, binA, binInt, ofConst, ofConst1, loadA, TK.isAgg, asVar, unA, builtinA, lenOpA, lenA, ileb_cast, ileb_eq, ieqb_dec, indexAddrA, inB_dec, evPairs, storeA, AV.cellsOf, pairsOf, xI_nil, binBool, gcE, evOpt, tagZ, xI_block, xI_loopH, xI_condM, xI_exitM, xI_skip, xI_blk, exitA, ty2, ty3, ty4, ty5, ty9, ty67, ty117, eK43_0_0, eK43_1_2, eK43_1_1, eK43_1_0, runTr, pairsOk, pairOk, lstAt, lastOf, sameVal, AV.eqv, eqvs, eqvs_ints, regOps, blt_dec, cond_true, cond_false, fieldAddrA, allOne, AV.one, buildA, sizesOf, fillA, putCells, n_push, indexA, ty2, ty27, ty9, ty5, ty3, ty36, ty67, convA, hlt, hnl, d1, hw, r1, hb, s1, s2, w1', w2', hpos]
theorem l43_out {n : Nat} {tb : List UInt8} (hT : Tbl n tb) {L : List (List UInt8)} (hn : n = L.length) (hL : Strm L) {s0 : List UInt8} (h0 : L[0]? = some s0) : ∀ (m t : Nat) (σ : St) (r : Nat) (acc : List UInt8), t + m = 32 → σ.get 0 = some ⟨[.lst L.length (strs L)], 1, false⟩ → Bld σ 1 r acc → r ≠ 0 → acc = txt t (fun t => bitf tb (num (sL L t) L.length)) →
    ∃ σ', exI TT (FI.of Tryd.f43 (TT.an 43)) K43_0 [(0, .str tb), (3, .ptr 0 0), (6, .ptr 1 0), (7, .int .i64 t)] σ = some (.tup [.str (cbL tb L), .bool true], σ') := by
  have h4 : L.length ≤ 4 := by rw [← hn]; exact hT.2.1
  have hlen : 0 < L.length := (List.getElem?_eq_some_iff.1 h0).1
  have l2 := (hL s0 (List.mem_of_getElem? h0)).1
  have r0 : ∀ σ : St, cellsAt σ (.lp (strs L) 0) 1 = some [.str s0] := fun σ => strs_read h0
  have hle : ¬ L.length ≤ 0 := by omega
  have hlz : ¬ L.length = 0 := by omega
  intro m
  induction m with
  | zero =>
    intro t σ r acc ht hg hb hr ha
    obtain rfl : t = 32 := by omega
    have hbx : cellsAt σ (.ptr 0 0) 1 = some [.lst L.length (strs L)] := by simp [cellsAt, hg, getCells, takeN, dropN]
    obtain ⟨σ1, c1, _, _⟩ := c92 hb (by rw [ha, txt_length]; decide)
    rw [ha] at c1
    rw [show txt 32 (fun t => bitf tb (num (sL L t) L.length)) = cbL tb L from rfl] at c1
    refine ⟨σ1, ?_⟩
    clear ha hg hb
    generalize cbL tb L = w at *
    generalize L.length = k at *
    rw [show ((32 : Nat) : Int) = 32 from rfl]
    rw [fi43]
    rw [xl43_0]
    simp only [B43_0, b43, Tryd.f43, Option.getD, fstC, sndC, bodyC, thnC, elsC]
    simp [xI_seq, xI_region, xI_ret, regA, regOps, runOps, opStep, wantedA, opA, evo, evos, calleeA, lk, nif_eq, putE, paramsE, valS, val2, keepE, restrict, finA, resA, binA, binInt, ofConst, ofConst1, loadA, TK.isAgg, asVar, unA, builtinA, lenOpA, lenA, ileb_cast, ileb_eq, ieqb_dec, indexAddrA, inB_dec, evPairs, storeA, AV.cellsOf, pairsOf, xI_nil, binBool, gcE, evOpt, tagZ, xI_block, xI_loopH, xI_condM, xI_exitM, xI_skip, xI_blk, exitA, ty2, ty3, ty4, ty5, ty9, ty67, ty117, eK43_0_0, eK43_1_2, eK43_1_1, eK43_1_0, runTr, pairsOk, pairOk, lstAt, lastOf, sameVal, AV.eqv, eqvs, eqvs_ints, regOps, blt_dec, cond_true, cond_false, fieldAddrA, allOne, AV.one, buildA, sizesOf, fillA, putCells, n_push, indexA, ty2, ty27, ty9, ty5, ty3, ty36, ty67, hbx, r0, l2, hlen, hle, hlz]
    simp only [R43_0_0, b43, Tryd.f43, Option.getD, fstC, sndC, bodyC, thnC, elsC]
    simp [xI_seq, xI_region, xI_ret, regA, regOps, runOps, opStep, wantedA, opA, evo, evos, calleeA, lk, nif_eq, putE, paramsE, valS, val2, keepE, restrict, finA, resA, binA, binInt, ofConst, ofConst1, loadA, TK.isAgg, asVar, unA, builtinA, lenOpA, lenA, ileb_cast, ileb_eq, ieqb_dec, indexAddrA, inB_dec, evPairs, storeA, AV.cellsOf, pairsOf, xI_nil, binBool, gcE, evOpt, tagZ, xI_block, xI_loopH, xI_condM, xI_exitM, xI_skip, xI_blk, exitA, ty2, ty3, ty4, ty5, ty9, ty67, ty117, eK43_0_0, eK43_1_2, eK43_1_1, eK43_1_0, c1]
  | succ m ih =>
    intro t σ r acc ht hg hb hr ha
    have hbx : cellsAt σ (.ptr 0 0) 1 = some [.lst L.length (strs L)] := by simp [cellsAt, hg, getCells, takeN, dropN]
    have h1 := l43_in tb hL h4 t (by omega) σ L 0 rfl (Nat.zero_le _)
    have hx := num_lt (sL L t) L.length
    have hp := pw_4 hT.2.1
    have hp2 : pw n = 2 ^ L.length := by rw [hn]; rfl
    have hpn := hT.1
    have htb := bit_get hT.2.2 (i := num (sL L t) L.length) (by omega)
    have hal : acc.length = t := by rw [ha, txt_length]
    obtain ⟨σ1, r1, c1, hb1, hrn, hnn, ho⟩ := c91 hb (by omega) (bb (bitf tb (num (sL L t) L.length)).toNat)
    have n0 := hb.1
    have hg1 := (ho 0 (by omega) (by decide) (fun e => hr e.symm)).trans hg
    obtain ⟨σ', h2⟩ := ih (t + 1) σ1 r1 (acc ++ [bb (bitf tb (num (sL L t) L.length)).toNat]) (by omega) hg1 hb1 (by omega) (by rw [ha]; simp [txt, List.range_succ])
    refine ⟨σ', ?_⟩
    rw [← h2, show ((t + 1 : Nat) : Int) = (t : Int) + 1 by omega]
    have hw : wrapA .i64 ((t : Int) + 1) = (t : Int) + 1 := wrapA_id (by omega) (by omega)
    have ht32 : (t : Int) < 32 := by omega
    have ht33 : t < 32 := by omega
    have ht34 : ¬ 32 ≤ t := by omega
    clear ih h2 ha hg hb hb1 hg1 ho hpn hp2 hp hx
    rw [show num (sL L t) 0 = 0 from rfl] at h1
    simp only [show ((0 : Nat) : Int) = 0 from rfl] at h1
    generalize bb (bitf tb (num (sL L t) L.length)).toNat = letter at *
    generalize num (sL L t) L.length = x at *
    generalize L.length = k at *
    rw [fi43] at h1 ⊢
    conv => lhs; rw [xl43_0]
    simp only [B43_0, b43, Tryd.f43, Option.getD, fstC, sndC, bodyC, thnC, elsC]
    simp [xI_seq, xI_region, xI_ret, regA, regOps, runOps, opStep, wantedA, opA, evo, evos, calleeA, lk, nif_eq, putE, paramsE, valS, val2, keepE, restrict, finA, resA, binA, binInt, ofConst, ofConst1, loadA, TK.isAgg, asVar, unA, builtinA, lenOpA, lenA, ileb_cast, ileb_eq, ieqb_dec, indexAddrA, inB_dec, evPairs, storeA, AV.cellsOf, pairsOf, xI_nil, binBool, gcE, evOpt, tagZ, xI_block, xI_loopH, xI_condM, xI_exitM, xI_skip, xI_blk, exitA, ty2, ty3, ty4, ty5, ty9, ty67, ty117, eK43_0_0, eK43_1_2, eK43_1_1, eK43_1_0, runTr, pairsOk, pairOk, lstAt, lastOf, sameVal, AV.eqv, eqvs, eqvs_ints, regOps, blt_dec, cond_true, cond_false, fieldAddrA, allOne, AV.one, buildA, sizesOf, fillA, putCells, n_push, indexA, ty2, ty27, ty9, ty5, ty3, ty36, ty67, hbx, r0, l2, hlen, hle, hlz, ht32, ht33, ht34]
    refine Eq.trans h1 ?_
    simp only [R43_1_2, b43, Tryd.f43, Option.getD, fstC, sndC, bodyC, thnC, elsC]
    simp [xI_seq, xI_region, xI_ret, regA, regOps, runOps, opStep, wantedA, opA, evo, evos, calleeA, lk, nif_eq, putE, paramsE, valS, val2, keepE, restrict, finA, resA, binA, binInt, ofConst, ofConst1, loadA, TK.isAgg, asVar, unA, builtinA, lenOpA, lenA, ileb_cast, ileb_eq, ieqb_dec, indexAddrA, inB_dec, evPairs, storeA, AV.cellsOf, pairsOf, xI_nil, binBool, gcE, evOpt, tagZ, xI_block, xI_loopH, xI_condM, xI_exitM, xI_skip, xI_blk, exitA, ty2, ty3, ty4, ty5, ty9, ty67, ty117, eK43_0_0, eK43_1_2, eK43_1_1, eK43_1_0, runTr, pairsOk, pairOk, lstAt, lastOf, sameVal, AV.eqv, eqvs, eqvs_ints, regOps, blt_dec, cond_true, cond_false, fieldAddrA, allOne, AV.one, buildA, sizesOf, fillA, putCells, n_push, indexA, ty2, ty27, ty9, ty5, ty3, ty36, htb, c1, hw]
    try rfl
theorem v43 {n : Nat} {tb : List UInt8} (hT : Tbl n tb) {L : List (List UInt8)} (hn : n = L.length) (hL : Strm L) (h0 : 0 < n) : FnV TT 43 [.str tb, .lst L.length (strs L)] (.tup [.str (cbL tb L), .bool true]) := by
  have h4 : L.length ≤ 4 := by rw [← hn]; exact hT.2.1
  obtain ⟨s0, hs0⟩ : ∃ s0, L[0]? = some s0 := ⟨_, List.getElem?_eq_getElem (by omega)⟩
  obtain ⟨σ0, e0⟩ : ∃ σ0, (⟨[], 0⟩ : St).push ⟨[.lst L.length (strs L)], 1, false⟩ = σ0 := ⟨_, rfl⟩
  have n0 : σ0.n = 1 := by subst e0; rfl
  have g0 : σ0.get 0 = some ⟨[.lst L.length (strs L)], 1, false⟩ := by subst e0; exact get_push_same
  have b0 : cellsAt σ0 (.ptr 0 0) 1 = some [.lst L.length (strs L)] := by simp [cellsAt, g0, getCells, takeN, dropN]
  obtain ⟨σ1, e1⟩ : ∃ σ1, σ0.push ⟨[.nilP, .nilS], tagOf 117 2, false⟩ = σ1 := ⟨_, rfl⟩
  have hb1 : Bld σ1 1 1 [] := by subst e1; have := Bld.new σ0; rwa [n0] at this
  have g1 : σ1.get 0 = some ⟨[.lst L.length (strs L)], 1, false⟩ := by subst e1; rw [get_push_lt (by omega)]; exact g0
  obtain ⟨σ', h⟩ := l43_out hT hn hL hs0 32 0 σ1 1 [] (by decide) g1 hb1 (by decide) rfl
  have c1 := v86 hT σ0 [.str tb] rfl
  have c2 := v87 hT σ0 [.str tb] rfl
  have c3 := v88 L.length (by omega) (strs L) σ0 [.lst L.length (strs L)] rfl
  have c4 := c89 hL h4 hs0 σ0 g0
  rw [hn] at c2
  refine FnV.mk fn43 rfl md43 ⟨σ', ?_⟩ (fun _ => rfl) rfl
  rw [← h, show ((0 : Nat) : Int) = 0 from rfl, fi43]
  clear h g0 g1 hb1
  generalize L.length = k at *
  simp [xI_seq, xI_region, xI_ret, regA, regOps, runOps, opStep, wantedA, opA, evo, evos, calleeA, lk, nif_eq, putE, paramsE, valS, val2, keepE, restrict, finA, resA, binA, binInt, ofConst, ofConst1, loadA, TK.isAgg, asVar, unA, builtinA, lenOpA, lenA, ileb_cast, ileb_eq, ieqb_dec, indexAddrA, inB_dec, evPairs, storeA, AV.cellsOf, pairsOf, xI_nil, binBool, gcE, evOpt, tagZ, xI_block, xI_loopH, xI_condM, xI_exitM, xI_skip, xI_blk, exitA, ty2, ty3, ty4, ty5, ty9, ty67, ty117, eK43_0_0, eK43_1_2, eK43_1_1, eK43_1_0, ty117, ty67, allOne, AV.one, e0, n0, b0, e1, c1, c2, c3, c4]
  rfl
theorem v43n {tb : List UInt8} (hT : Tbl 0 tb) : FnV TT 43 [.str tb, .lst 0 []] (.tup [.str [], .bool true]) := by
  obtain ⟨σ0, e0⟩ : ∃ σ0, (⟨[], 0⟩ : St).push ⟨[.lst 0 []], 1, false⟩ = σ0 := ⟨_, rfl⟩
  have n0 : σ0.n = 1 := by subst e0; rfl
  have g0 : σ0.get 0 = some ⟨[.lst 0 []], 1, false⟩ := by subst e0; exact get_push_same
  have b0 : cellsAt σ0 (.ptr 0 0) 1 = some [.lst 0 []] := by simp [cellsAt, g0, getCells, takeN, dropN]
  obtain ⟨σ1, e1⟩ : ∃ σ1, σ0.push ⟨[.nilP, .nilS], tagOf 117 2, false⟩ = σ1 := ⟨_, rfl⟩
  have hb1 : Bld σ1 1 1 [] := by subst e1; have := Bld.new σ0; rwa [n0] at this
  have g1 : σ1.get 0 = some ⟨[.lst 0 []], 1, false⟩ := by subst e1; rw [get_push_lt (by omega)]; exact g0
  have b1 : cellsAt σ1 (.ptr 0 0) 1 = some [.lst 0 []] := by simp [cellsAt, g1, getCells, takeN, dropN]
  have c1 := v86 hT σ0 [.str tb] rfl
  have c2 := v87 hT σ0 [.str tb] rfl
  have c3 := v88 0 (by omega) [] σ0 [.lst 0 []] rfl
  have c4 := c89n σ0
  obtain ⟨σ2, c5, _, _⟩ := c92 hb1 (by decide)
  simp only [show ((0 : Nat) : Int) = 0 from rfl] at c2 c3
  refine FnV.mk fn43 rfl md43 ⟨σ2, ?_⟩ (fun _ => rfl) rfl
  have h : exI TT (FI.of Tryd.f43 (TT.an 43)) K43_0 [(0, .str tb), (3, .ptr 0 0), (6, .ptr 1 0), (7, .int .i64 0)] σ1 = some (.tup [.str [], .bool true], σ2) := by
    rw [fi43, xl43_0]
    simp only [B43_0, b43, Tryd.f43, Option.getD, fstC, sndC, bodyC, thnC, elsC]
    simp [xI_seq, xI_region, xI_ret, regA, regOps, runOps, opStep, wantedA, opA, evo, evos, calleeA, lk, nif_eq, putE, paramsE, valS, val2, keepE, restrict, finA, resA, binA, binInt, ofConst, ofConst1, loadA, TK.isAgg, asVar, unA, builtinA, lenOpA, lenA, ileb_cast, ileb_eq, ieqb_dec, indexAddrA, inB_dec, evPairs, storeA, AV.cellsOf, pairsOf, xI_nil, binBool, gcE, evOpt, tagZ, xI_block, xI_loopH, xI_condM, xI_exitM, xI_skip, xI_blk, exitA, ty2, ty3, ty4, ty5, ty9, ty67, ty117, eK43_0_0, eK43_1_2, eK43_1_1, eK43_1_0, runTr, pairsOk, pairOk, lstAt, lastOf, sameVal, AV.eqv, eqvs, eqvs_ints, regOps, blt_dec, cond_true, cond_false, fieldAddrA, allOne, AV.one, buildA, sizesOf, fillA, putCells, n_push, indexA, ty2, ty27, ty9, ty5, ty3, ty36, ty67, b1]
    simp only [R43_0_0, b43, Tryd.f43, Option.getD, fstC, sndC, bodyC, thnC, elsC]
    simp [xI_seq, xI_region, xI_ret, regA, regOps, runOps, opStep, wantedA, opA, evo, evos, calleeA, lk, nif_eq, putE, paramsE, valS, val2, keepE, restrict, finA, resA, binA, binInt, ofConst, ofConst1, loadA, TK.isAgg, asVar, unA, builtinA, lenOpA, lenA, ileb_cast, ileb_eq, ieqb_dec, indexAddrA, inB_dec, evPairs, storeA, AV.cellsOf, pairsOf, xI_nil, binBool, gcE, evOpt, tagZ, xI_block, xI_loopH, xI_condM, xI_exitM, xI_skip, xI_blk, exitA, ty2, ty3, ty4, ty5, ty9, ty67, ty117, eK43_0_0, eK43_1_2, eK43_1_1, eK43_1_0, c5]
  rw [← h, fi43]
  clear h g0 g1 hb1
  simp [xI_seq, xI_region, xI_ret, regA, regOps, runOps, opStep, wantedA, opA, evo, evos, calleeA, lk, nif_eq, putE, paramsE, valS, val2, keepE, restrict, finA, resA, binA, binInt, ofConst, ofConst1, loadA, TK.isAgg, asVar, unA, builtinA, lenOpA, lenA, ileb_cast, ileb_eq, ieqb_dec, indexAddrA, inB_dec, evPairs, storeA, AV.cellsOf, pairsOf, xI_nil, binBool, gcE, evOpt, tagZ, xI_block, xI_loopH, xI_condM, xI_exitM, xI_skip, xI_blk, exitA, ty2, ty3, ty4, ty5, ty9, ty67, ty117, eK43_0_0, eK43_1_2, eK43_1_1, eK43_1_0, ty117, ty67, allOne, AV.one, e0, n0, b0, e1, c1, c2, c3, c4]
  rfl

end Go.Proofs.YthkdbkjkccogfaaDoor
