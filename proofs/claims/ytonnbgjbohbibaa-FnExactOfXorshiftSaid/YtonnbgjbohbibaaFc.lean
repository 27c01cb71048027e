/- Contracts and law: machines of shifts. Nothing is claimed here; no condition. -/
import Derived.Test.YtonnbgjbohbibaaFb
namespace Go.Proofs.Ytonnbgjbohbibaa
open Go Go.Abs
set_option linter.unusedSimpArgs false
set_option linter.unusedVariables false
open Go.Wd
noncomputable def b51 : Code := Try.f51.body.getD .skip
noncomputable def B51_0 : Code := (bodyC (bodyC (sndC (fstC (sndC (sndC (sndC b51)))))))
noncomputable def K51_0 : List It := .lp B51_0 :: .blk 0 :: .code (sndC (sndC (sndC (sndC b51)))) :: []
theorem xl51_0 {fi : FI} {env : Env} {σ : St} : exI TT fi K51_0 env σ = exI TT fi (.code B51_0 :: K51_0) env σ := by unfold K51_0; exact xI_lp
noncomputable def R51_0_0 : List It := .code (sndC (sndC (sndC (sndC b51)))) :: []
theorem eK51_0_0 : exitA 0 K51_0 = some R51_0_0 := rfl
noncomputable def B51_1 : Code := (bodyC (bodyC (sndC (sndC (sndC (sndC (sndC (bodyC (fstC (sndC (bodyC (bodyC (sndC (fstC (sndC (sndC (sndC b51)))))))))))))))))
noncomputable def K51_1 : List It := .lp B51_1 :: .blk 2 :: .blk 1 :: .code (sndC (sndC (bodyC (bodyC (sndC (fstC (sndC (sndC (sndC b51))))))))) :: K51_0
theorem xl51_1 {fi : FI} {env : Env} {σ : St} : exI TT fi K51_1 env σ = exI TT fi (.code B51_1 :: K51_1) env σ := by unfold K51_1; exact xI_lp
noncomputable def R51_1_2 : List It := .blk 1 :: .code (sndC (sndC (bodyC (bodyC (sndC (fstC (sndC (sndC (sndC b51))))))))) :: K51_0
theorem eK51_1_2 : exitA 2 K51_1 = some R51_1_2 := rfl
noncomputable def R51_1_1 : List It := .code (sndC (sndC (bodyC (bodyC (sndC (fstC (sndC (sndC (sndC b51))))))))) :: K51_0
theorem eK51_1_1 : exitA 1 K51_1 = some R51_1_1 := rfl
theorem eK51_1_0 : exitA 0 K51_1 = some R51_0_0 := rfl
/-- The rows while column k is told, up to row i. -/
def xin (w a b c k i : Nat) : List Nat := (List.range w).map fun j => if j < i then bitRow w a b c j (k + 1) else bitRow w a b c j k
theorem xin_zero (w a b c k : Nat) : xin w a b c k 0 = (List.range w).map fun j => bitRow w a b c j k := by
  unfold xin; exact List.map_congr_left fun j _ => by simp
theorem xin_full (w a b c k : Nat) : xin w a b c k w = (List.range w).map fun j => bitRow w a b c j (k + 1) := by
  unfold xin; exact List.map_congr_left fun j hj => by rw [if_pos (List.mem_range.1 hj)]
theorem xin_get {w a b c k i : Nat} (h : i < w) : (xin w a b c k i)[i]? = some (bitRow w a b c i k) := by simp [xin, h]
theorem xin_set {w a b c k i : Nat} (h : i < w) : (xin w a b c k i).set i (bitRow w a b c i (k + 1)) = xin w a b c k (i + 1) := by
  refine List.ext_getElem? fun j => ?_
  rw [List.getElem?_set]
  simp only [xin, List.length_map, List.length_range]
  by_cases hj : i = j
  · subst hj; simp [h]
  · rw [if_neg hj]
    by_cases hjw : j < w
    · simp only [List.getElem?_map, List.getElem?_range hjw, Option.map_some]
      congr 1
      by_cases h1 : j < i
      · rw [if_pos h1, if_pos (by omega)]
      · rw [if_neg h1, if_neg (by omega)]
    · simp [hjw]
theorem bit_16 {w a b c i k : Nat} (h : k ≤ 16) : bitRow w a b c i k < 65536 := Nat.lt_of_lt_of_le (bitRow_lt w a b c i k) (Nat.pow_le_pow_right (by decide) h)
theorem l51b (w a b c k : Nat) (hw : w ≤ 16) (hk : k < w) (x : Nat) (hx : x = shifts w a b c (2 ^ k)) (hxl : x < 2 ^ w) (q2 : St → Prop) : ∀ (m i : Nat) (σ : St), i + m = w → σ.get 2 = some ⟨[.int .i64 w, .sl 1 0 w w, .int .i64 1], 3, false⟩ → Row σ 1 (nints (xin w a b c k i)) →
    ∃ σ', exI TT (FI.of Try.f51 (TT.an 51)) K51_1 [(0, .int .i64 w), (1, .int .i64 a), (2, .int .i64 b), (3, .int .i64 c), (8, .ptr 0 0), (10, .ptr 2 0), (11, .int .i64 k), (12, .int .i64 x), (13, .int .i64 i)] σ =
      exI TT (FI.of Try.f51 (TT.an 51)) R51_1_2 [(0, .int .i64 w), (1, .int .i64 a), (2, .int .i64 b), (3, .int .i64 c), (8, .ptr 0 0), (10, .ptr 2 0), (11, .int .i64 k), (12, .int .i64 x), (13, .int .i64 w), (69, .bool false)] σ' ∧ Row σ' 1 (nints (xin w a b c k w)) ∧ σ'.n = σ.n ∧ ∀ d, d ≠ 1 → σ'.get d = σ.get d := by
  intro m
  induction m with
  | zero =>
    intro i σ hi h2 hr
    obtain rfl : i = w := by omega
    refine ⟨σ, ?_, hr, rfl, fun _ _ => rfl⟩
    rw [fi51]
    rw [xl51_1]
    simp only [B51_1, b51, Try.f51, Option.getD, fstC, sndC, bodyC, thnC, elsC]
    simp [xI_seq, xI_region, xI_ret, regA, regOps, runOps, opStep, wantedA, opA, evo, evos, calleeA, lk, nif_eq, putE, paramsE, valS, val2, keepE, restrict, finA, resA, binA, binInt, ofConst, ofConst1, loadA, TK.isAgg, asVar, unA, builtinA, lenOpA, lenA, ileb_cast, ileb_eq, ieqb_dec, indexAddrA, inB_dec, evPairs, storeA, AV.cellsOf, pairsOf, xI_nil, binBool, gcE, evOpt, xI_block, xI_loopH, xI_condM, xI_exitM, xI_skip, xI_blk, exitA, ty2, ty4, ty33, ty41, ty73, eK51_0_0, eK51_1_2, eK51_1_1, eK51_1_0]
  | succ m ih =>
    intro i σ hi h2 hr
    have hiw : i < w := by omega
    have hw16 : 2 ^ w ≤ 65536 := pw_16 hw
    have hrd := hr.read (nints_get (xin_get hiw))
    have hc : cellsAt σ (.ptr 2 1) 1 = some [.sl 1 0 w w] := by simp [cellsAt, h2, getCells, takeN, dropN]
    have hb0 : bitRow w a b c i k < 65536 := bit_16 (by omega)
    have u1 := n_wrapu (a := i) (by omega)
    have u2 := n_wrapu (a := k) (by omega)
    have s1 := sh_r (a := x) (b := i) (by omega)
    have hsl : shrN x i ≤ x := Nat.div_le_self _ _
    have s2 := n_and1 (a := shrN x i) (by omega)
    have hm := mod_le (shrN x i)
    have hpk : 2 ^ k ≤ 65536 := pw_16 (by omega)
    have hml : modN (shrN x i) 2 * 2 ^ k ≤ 1 * 65536 := Nat.mul_le_mul hm hpk
    have s3 := sh_l (a := modN (shrN x i) 2) (b := k) (by omega) (by omega)
    have s4 := n_or (a := bitRow w a b c i k) (b := shlN (modN (shrN x i) 2) k) (by omega) (by show modN (shrN x i) 2 * 2 ^ k ≤ _; omega)
    rw [show orN (bitRow w a b c i k) (shlN (modN (shrN x i) 2) k) = bitRow w a b c i (k + 1) by rw [hx]; rfl] at s4
    obtain ⟨σ1, hst, hr1, hn1, hu1⟩ := store_row (i := i) (x := (bitRow w a b c i (k + 1) : Nat)) hr (by rw [nints_length]; simp [xin]; omega)
    rw [nints_set, xin_set hiw] at hr1
    obtain ⟨σ', e1, e2, e3, e4⟩ := ih (i + 1) σ1 (by omega) ((hu1 2 (by decide)).trans h2) hr1
    refine ⟨σ', ?_, e2, e3.trans hn1, fun d hd => (e4 d hd).trans (hu1 d hd)⟩
    have hlt : ¬ w ≤ i := by omega
    have hwr := wrapS (n := i) (by omega)
    simp only [Int.natCast_add, show ((1 : Nat) : Int) = 1 from rfl] at e1
    generalize bitRow w a b c i (k + 1) = z at *
    generalize bitRow w a b c i k = z0 at *
    rw [fi51] at e1 ⊢
    rw [xl51_1]
    simp only [B51_1, b51, Try.f51, Option.getD, fstC, sndC, bodyC, thnC, elsC]
    simp [xI_seq, xI_region, xI_ret, regA, regOps, runOps, opStep, wantedA, opA, evo, evos, calleeA, lk, nif_eq, putE, paramsE, valS, val2, keepE, restrict, finA, resA, binA, binInt, ofConst, ofConst1, loadA, TK.isAgg, asVar, unA, builtinA, lenOpA, lenA, ileb_cast, ileb_eq, ieqb_dec, indexAddrA, inB_dec, evPairs, storeA, AV.cellsOf, pairsOf, xI_nil, binBool, gcE, evOpt, xI_block, xI_loopH, xI_condM, xI_exitM, xI_skip, xI_blk, exitA, ty2, ty4, ty33, ty41, ty73, eK51_0_0, eK51_1_2, eK51_1_1, eK51_1_0, fieldAddrA, allOne, AV.one, ty2, ty33, ty41, hlt, hiw, hwr, hc, hrd, u1, u2, s1, s2, s3, s4, hst, convA, ty73]
    exact e1
theorem shifts_eq {w a b c n : Nat} (hn : n < 2 ^ w) : xorN (xorN (xorN n (upN n a w)) (dnN (xorN n (upN n a w)) b w)) (upN (xorN (xorN n (upN n a w)) (dnN (xorN n (upN n a w)) b w)) c w) = shifts w a b c n := by
  have h1 : xorN n (upN n a w) < 2 ^ w := xor_up_lt a hn
  rw [dn_eq h1]; rfl
theorem l51 (w a b c : Nat) (hw : w ≤ 16) (ha : a ≤ w) (hb : b ≤ w) (hc : c ≤ w) : ∀ (m k : Nat) (σ : St), k + m = w → σ.get 0 = some ⟨[.int .i64 0, .nilS, .int .i64 0], 3, false⟩ → σ.get 2 = some ⟨[.int .i64 w, .sl 1 0 w w, .int .i64 1], 3, false⟩ → Row σ 1 (nints ((List.range w).map fun j => bitRow w a b c j k)) →
    ∃ σ', exI TT (FI.of Try.f51 (TT.an 51)) K51_0 [(0, .int .i64 w), (1, .int .i64 a), (2, .int .i64 b), (3, .int .i64 c), (8, .ptr 0 0), (10, .ptr 2 0), (11, .int .i64 k)] σ = some (.tup [.agg [.int .i64 w, .sl 1 0 w w, .int .i64 1], .bool true], σ') ∧ Row σ' 1 (nints (xsL w a b c)) := by
  intro m
  induction m with
  | zero =>
    intro k σ hk g0 g2 hr
    obtain rfl : k = w := by omega
    obtain ⟨σ', m1, m2, m3⟩ := res0 (x := .int .i64 k) (y := .sl 1 0 k k) (z := .int .i64 1) g0 rfl
    have hall : cellsAt σ (.ptr 2 0) 3 = some [.int .i64 k, .sl 1 0 k k, .int .i64 1] := by simp [cellsAt, g2, getCells, takeN, dropN]
    refine ⟨σ', ?_, m3 1 _ (by decide) hr⟩
    rw [fi51]
    rw [xl51_0]
    simp only [B51_0, b51, Try.f51, Option.getD, fstC, sndC, bodyC, thnC, elsC]
    simp [xI_seq, xI_region, xI_ret, regA, regOps, runOps, opStep, wantedA, opA, evo, evos, calleeA, lk, nif_eq, putE, paramsE, valS, val2, keepE, restrict, finA, resA, binA, binInt, ofConst, ofConst1, loadA, TK.isAgg, asVar, unA, builtinA, lenOpA, lenA, ileb_cast, ileb_eq, ieqb_dec, indexAddrA, inB_dec, evPairs, storeA, AV.cellsOf, pairsOf, xI_nil, binBool, gcE, evOpt, xI_block, xI_loopH, xI_condM, xI_exitM, xI_skip, xI_blk, exitA, ty2, ty4, ty33, ty41, ty73, eK51_0_0, eK51_1_2, eK51_1_1, eK51_1_0]
    simp only [R51_0_0, b51, Try.f51, Option.getD, fstC, sndC, bodyC, thnC, elsC]
    simp [xI_seq, xI_region, xI_ret, regA, regOps, runOps, opStep, wantedA, opA, evo, evos, calleeA, lk, nif_eq, putE, paramsE, valS, val2, keepE, restrict, finA, resA, binA, binInt, ofConst, ofConst1, loadA, TK.isAgg, asVar, unA, builtinA, lenOpA, lenA, ileb_cast, ileb_eq, ieqb_dec, indexAddrA, inB_dec, evPairs, storeA, AV.cellsOf, pairsOf, xI_nil, binBool, gcE, evOpt, xI_block, xI_loopH, xI_condM, xI_exitM, xI_skip, xI_blk, exitA, ty2, ty4, ty33, ty41, ty73, eK51_0_0, eK51_1_2, eK51_1_1, eK51_1_0, ty41, hall, m1, m2]
  | succ m ih =>
    intro k σ hk g0 g2 hr
    have hkw : k < w := by omega
    have hw16 : 2 ^ w ≤ 65536 := pw_16 hw
    have hp0 : pw k < 2 ^ w := Nat.pow_lt_pow_right (by decide) hkw
    obtain ⟨y1, hy1⟩ : ∃ y, y = upN (pw k) a w := ⟨_, rfl⟩
    have c1 : ∀ σ, callI TT 93 [.int .i64 (pw k : Nat), .int .i64 a, .int .i64 w] σ = some (.int .i64 y1, σ) := fun σ => by rw [hy1]; exact v93u (pw k) a w (by omega) (by omega) hw σ _ rfl
    have ly1 : y1 < 2 ^ w := by rw [hy1]; exact Nat.mod_lt _ (pw_pos w)
    obtain ⟨x1, hx1⟩ : ∃ x, x = xorN (pw k) y1 := ⟨_, rfl⟩
    have lx1 : x1 < 2 ^ w := by rw [hx1]; exact Nat.xor_lt_two_pow hp0 ly1
    have d1 := n_xor (a := pw k) (b := y1) (by omega) (by omega)
    rw [← hx1] at d1
    obtain ⟨y2, hy2⟩ : ∃ y, y = dnN x1 b w := ⟨_, rfl⟩
    have c2 : ∀ σ, callI TT 93 [.int .i64 x1, .int .i64 (-(b : Int)), .int .i64 w] σ = some (.int .i64 y2, σ) := fun σ => by rw [hy2]; exact v93n x1 b w (by omega) (by omega) hw σ _ rfl
    have ly2 : y2 < 2 ^ w := by rw [hy2, dn_eq lx1]; exact Nat.lt_of_le_of_lt (Nat.div_le_self _ _) lx1
    obtain ⟨x2, hx2⟩ : ∃ x, x = xorN x1 y2 := ⟨_, rfl⟩
    have lx2 : x2 < 2 ^ w := by rw [hx2]; exact Nat.xor_lt_two_pow lx1 ly2
    have d2 := n_xor (a := x1) (b := y2) (by omega) (by omega)
    rw [← hx2] at d2
    obtain ⟨y3, hy3⟩ : ∃ y, y = upN x2 c w := ⟨_, rfl⟩
    have c3 : ∀ σ, callI TT 93 [.int .i64 x2, .int .i64 c, .int .i64 w] σ = some (.int .i64 y3, σ) := fun σ => by rw [hy3]; exact v93u x2 c w (by omega) (by omega) hw σ _ rfl
    have ly3 : y3 < 2 ^ w := by rw [hy3]; exact Nat.mod_lt _ (pw_pos w)
    obtain ⟨x3, hx3⟩ : ∃ x, x = xorN x2 y3 := ⟨_, rfl⟩
    have lx3 : x3 < 2 ^ w := by rw [hx3]; exact Nat.xor_lt_two_pow lx2 ly3
    have d3 := n_xor (a := x2) (b := y3) (by omega) (by omega)
    rw [← hx3] at d3
    have hfin : x3 = shifts w a b c (2 ^ k) := by rw [hx3, hy3, hx2, hy2, hx1, hy1]; exact shifts_eq hp0
    rw [← xin_zero] at hr
    obtain ⟨σ1, e1, e2, e3, e4⟩ := l51b w a b c k hw hkw x3 hfin lx3 (fun _ => True) w 0 σ (by omega) g2 hr
    rw [xin_full] at e2
    obtain ⟨σ', e5, e6⟩ := ih (k + 1) σ1 (by omega) ((e4 0 (by decide)).trans g0) ((e4 2 (by decide)).trans g2) e2
    refine ⟨σ', ?_, e6⟩
    have hlt : ¬ w ≤ k := by omega
    have hwr := wrapS (n := k) (by omega)
    have u1 := n_wrapu (a := k) (by omega)
    have s1 := sh_1 (b := k) (by omega)
    have hneg : wrapA .i64 (-(b : Int)) = -(b : Int) := wrapA_id (by omega) (by omega)
    simp only [Int.natCast_add, Int.natCast_zero, show ((1 : Nat) : Int) = 1 from rfl, show ((0 : Nat) : Int) = 0 from rfl] at e1 e5
    rw [fi51] at e1 e5 ⊢
    rw [xl51_0]
    simp only [B51_0, b51, Try.f51, Option.getD, fstC, sndC, bodyC, thnC, elsC]
    simp [xI_seq, xI_region, xI_ret, regA, regOps, runOps, opStep, wantedA, opA, evo, evos, calleeA, lk, nif_eq, putE, paramsE, valS, val2, keepE, restrict, finA, resA, binA, binInt, ofConst, ofConst1, loadA, TK.isAgg, asVar, unA, builtinA, lenOpA, lenA, ileb_cast, ileb_eq, ieqb_dec, indexAddrA, inB_dec, evPairs, storeA, AV.cellsOf, pairsOf, xI_nil, binBool, gcE, evOpt, xI_block, xI_loopH, xI_condM, xI_exitM, xI_skip, xI_blk, exitA, ty2, ty4, ty33, ty41, ty73, eK51_0_0, eK51_1_2, eK51_1_1, eK51_1_0, hlt, hkw, u1, s1, c1, d1, hneg, c2, d2, c3, d3, convA, ty2, ty73]
    refine e1.trans ?_
    simp only [R51_1_2, b51, Try.f51, Option.getD, fstC, sndC, bodyC, thnC, elsC]
    simp [xI_seq, xI_region, xI_ret, regA, regOps, runOps, opStep, wantedA, opA, evo, evos, calleeA, lk, nif_eq, putE, paramsE, valS, val2, keepE, restrict, finA, resA, binA, binInt, ofConst, ofConst1, loadA, TK.isAgg, asVar, unA, builtinA, lenOpA, lenA, ileb_cast, ileb_eq, ieqb_dec, indexAddrA, inB_dec, evPairs, storeA, AV.cellsOf, pairsOf, xI_nil, binBool, gcE, evOpt, xI_block, xI_loopH, xI_condM, xI_exitM, xI_skip, xI_blk, exitA, ty2, ty4, ty33, ty41, ty73, eK51_0_0, eK51_1_2, eK51_1_1, eK51_1_0, hwr]
    exact e5
theorem o51 (w a b c : Int) : FnM TT 51 [.int .i64 w, .int .i64 a, .int .i64 b, .int .i64 c] (xsR w a b c) := by
  obtain ⟨σ, hσ⟩ : ∃ σ, (⟨[], 0⟩ : St).push ⟨[.int .i64 0, .nilS, .int .i64 0], 3, false⟩ = σ := ⟨_, rfl⟩
  have g0 : σ.get 0 = some ⟨[.int .i64 0, .nilS, .int .i64 0], 3, false⟩ := by subst hσ; rfl
  have hn : σ.n = 1 := by subst hσ; rfl
  have i1 := c88 w 1 16 σ
  have i2 := c88 a 0 w σ
  have i3 := c88 b 0 w σ
  have i4 := c88 c 0 w σ
  cases hv : xsOk w a b c with
  | false =>
    rw [xsR_no hv]
    obtain ⟨σn, m1, m2, _⟩ := res0 (x := .int .i64 0) (y := .nilS) (z := .int .i64 0) g0 rfl
    refine FnM.mkN fn51 rfl md51 ⟨σn, ?_⟩
    cases h1 : inR w 1 16 with
    | false =>
      rw [h1] at i1
      rw [fi51]
      simp [xI_seq, xI_region, xI_ret, regA, regOps, runOps, opStep, wantedA, opA, evo, evos, calleeA, lk, nif_eq, putE, paramsE, valS, val2, keepE, restrict, finA, resA, binA, binInt, ofConst, ofConst1, loadA, TK.isAgg, asVar, unA, builtinA, lenOpA, lenA, ileb_cast, ileb_eq, ieqb_dec, indexAddrA, inB_dec, evPairs, storeA, AV.cellsOf, pairsOf, xI_nil, binBool, gcE, evOpt, xI_block, xI_loopH, xI_condM, xI_exitM, xI_skip, xI_blk, exitA, ty2, ty4, ty33, ty41, ty73, eK51_0_0, eK51_1_2, eK51_1_1, eK51_1_0, buildA, sizesOf, fillA, allOne, AV.one, ty2, ty33, ty41, hσ, i1, m1, m2]
    | true =>
      rw [h1] at i1
      cases h2 : inR a 0 w with
      | false =>
        rw [h2] at i2
        rw [fi51]
        simp [xI_seq, xI_region, xI_ret, regA, regOps, runOps, opStep, wantedA, opA, evo, evos, calleeA, lk, nif_eq, putE, paramsE, valS, val2, keepE, restrict, finA, resA, binA, binInt, ofConst, ofConst1, loadA, TK.isAgg, asVar, unA, builtinA, lenOpA, lenA, ileb_cast, ileb_eq, ieqb_dec, indexAddrA, inB_dec, evPairs, storeA, AV.cellsOf, pairsOf, xI_nil, binBool, gcE, evOpt, xI_block, xI_loopH, xI_condM, xI_exitM, xI_skip, xI_blk, exitA, ty2, ty4, ty33, ty41, ty73, eK51_0_0, eK51_1_2, eK51_1_1, eK51_1_0, buildA, sizesOf, fillA, allOne, AV.one, ty2, ty33, ty41, hσ, i1, i2, m1, m2]
      | true =>
        rw [h2] at i2
        cases h3 : inR b 0 w with
        | false =>
          rw [h3] at i3
          rw [fi51]
          simp [xI_seq, xI_region, xI_ret, regA, regOps, runOps, opStep, wantedA, opA, evo, evos, calleeA, lk, nif_eq, putE, paramsE, valS, val2, keepE, restrict, finA, resA, binA, binInt, ofConst, ofConst1, loadA, TK.isAgg, asVar, unA, builtinA, lenOpA, lenA, ileb_cast, ileb_eq, ieqb_dec, indexAddrA, inB_dec, evPairs, storeA, AV.cellsOf, pairsOf, xI_nil, binBool, gcE, evOpt, xI_block, xI_loopH, xI_condM, xI_exitM, xI_skip, xI_blk, exitA, ty2, ty4, ty33, ty41, ty73, eK51_0_0, eK51_1_2, eK51_1_1, eK51_1_0, buildA, sizesOf, fillA, allOne, AV.one, ty2, ty33, ty41, hσ, i1, i2, i3, m1, m2]
        | true =>
          rw [h3] at i3
          have h4 : inR c 0 w = false := by simpa [xsOk, h1, h2, h3] using hv
          rw [h4] at i4
          rw [fi51]
          simp [xI_seq, xI_region, xI_ret, regA, regOps, runOps, opStep, wantedA, opA, evo, evos, calleeA, lk, nif_eq, putE, paramsE, valS, val2, keepE, restrict, finA, resA, binA, binInt, ofConst, ofConst1, loadA, TK.isAgg, asVar, unA, builtinA, lenOpA, lenA, ileb_cast, ileb_eq, ieqb_dec, indexAddrA, inB_dec, evPairs, storeA, AV.cellsOf, pairsOf, xI_nil, binBool, gcE, evOpt, xI_block, xI_loopH, xI_condM, xI_exitM, xI_skip, xI_blk, exitA, ty2, ty4, ty33, ty41, ty73, eK51_0_0, eK51_1_2, eK51_1_1, eK51_1_0, buildA, sizesOf, fillA, allOne, AV.one, ty2, ty33, ty41, hσ, i1, i2, i3, i4, m1, m2]
  | true =>
    have hv0 := hv
    simp only [xsOk, Bool.and_eq_true] at hv0
    rw [hv0.1] at i1
    rw [hv0.2.1.1] at i2
    rw [hv0.2.1.2] at i3
    rw [hv0.2.2] at i4
    obtain ⟨w, a, b, c, rfl, rfl, rfl, rfl, hw1, hw, ha, hb, hc⟩ := xs_nat hv
    rw [xsR_yes hv]
    obtain ⟨σ1, hσ1⟩ : ∃ σ1, σ.push ⟨ints (List.replicate w 0), 1, false⟩ = σ1 := ⟨_, rfl⟩
    have n1 : σ1.n = 2 := by subst hσ1; rw [n_push, hn]
    have hm := mkI σ w (by omega)
    rw [hσ1, hn] at hm
    have r1 : Row σ1 1 (nints ((List.range w).map fun j => bitRow w a b c j 0)) := by
      rw [show nints ((List.range w).map fun j => bitRow w a b c j 0) = List.replicate w 0 by
        refine List.ext_getElem? fun j => ?_
        by_cases hj : j < w
        · simp [nints, List.getElem?_replicate, hj, bitRow]
        · simp [nints, List.getElem?_replicate, hj]]
      subst hσ1
      have := Row.push (σ := σ) (l := List.replicate w 0) (o := false)
      rwa [hn] at this
    obtain ⟨σ2, s2, n2, q2, o2⟩ := boxed σ1 (.int .i64 0) .nilS (.int .i64 0) (.int .i64 w) (.sl 1 0 w w) (.int .i64 1) rfl
    rw [n1] at s2 q2
    have g2 : σ2.get 2 = some ⟨[.int .i64 w, .sl 1 0 w w, .int .i64 1], 3, false⟩ := by
      have s2' := s2
      simp only [storeCellsA, n1 ▸ get_push_same (σ := σ1), allOne, AV.one, putN, overN, Bool.and_self] at s2'
      cases s2'
      rw [get_set_eq (n1 ▸ get_push_same (σ := σ1))]
    have g02 : σ2.get 0 = some ⟨[.int .i64 0, .nilS, .int .i64 0], 3, false⟩ := by rw [o2.2 0 (by omega)]; subst hσ1; rw [get_push_lt (by omega)]; exact g0
    obtain ⟨σ', e1, e2⟩ := l51 w a b c hw ha hb hc w 0 σ2 (by omega) g02 g2 (r1.old o2)
    obtain ⟨o, e2, _⟩ := e2
    have hxl : (nints (xsL w a b c)).length = w := by rw [nints_length]; simp [xsL]
    refine FnM.mkS fn51 rfl md51 ⟨σ', 1, o, ?_, e2⟩
    simp only [Int.natCast_zero, show ((0 : Nat) : Int) = 0 from rfl] at e1
    rw [hxl, ← e1, fi51]
    simp [xI_seq, xI_region, xI_ret, regA, regOps, runOps, opStep, wantedA, opA, evo, evos, calleeA, lk, nif_eq, putE, paramsE, valS, val2, keepE, restrict, finA, resA, binA, binInt, ofConst, ofConst1, loadA, TK.isAgg, asVar, unA, builtinA, lenOpA, lenA, ileb_cast, ileb_eq, ieqb_dec, indexAddrA, inB_dec, evPairs, storeA, AV.cellsOf, pairsOf, xI_nil, binBool, gcE, evOpt, xI_block, xI_loopH, xI_condM, xI_exitM, xI_skip, xI_blk, exitA, ty2, ty4, ty33, ty41, ty73, eK51_0_0, eK51_1_2, eK51_1_1, eK51_1_0, buildA, sizesOf, fillA, putCells, allOne, AV.one, ty2, ty33, ty41, hσ, i1, i2, i3, i4, hn, hm, n1, s2]
    rfl

set_option maxHeartbeats 2000000 in
theorem w11 (w : Int) (a : Int) (b : Int) (c : Int) : FnV TT 11 [.int .i64 w, .int .i64 a, .int .i64 b, .int .i64 c] (.bool true) := by
  refine FnV.mk fn11 rfl md11 ?_ (fun _ => rfl) rfl
  rw [fi11]
  obtain ⟨σ0, hσ⟩ : ∃ σ0, (⟨[], 0⟩ : St) = σ0 := ⟨_, rfl⟩
  have hn0 : σ0.n = 0 := by subst hσ; rfl
  rw [hσ]
  have hS := o51 w a b c
  have hI := o52 w a b c
  cases hx : xsR w a b c with
  | none =>
    rw [hx] at hS hI
    have cS : ∀ σ : St, callI TT 51 [.int .i64 w, .int .i64 a, .int .i64 b, .int .i64 c] σ = some (.tup [.agg [.int .i64 0, .nilS, .int .i64 0], .bool false], σ) := fun σ => hS.nil rfl
    have cI : ∀ σ : St, callI TT 52 [.int .i64 w, .int .i64 a, .int .i64 b, .int .i64 c] σ = some (.tup [.agg [.int .i64 0, .nilS, .int .i64 0], .bool false], σ) := fun σ => hI.nil rfl
    have cE : ∀ σ : St, callI TT 34 [.agg [.int .i64 0, .nilS, .int .i64 0], .agg [.int .i64 0, .nilS, .int .i64 0]] σ = some (.bool true, σ) := fun σ => v34n σ _ rfl
    have cH : ∀ σ : St, callI TT 39 [.agg [.int .i64 0, .nilS, .int .i64 0], .int .i64 1] σ = some (.int .i64 1, σ) := fun σ => v39n 1 σ _ rfl
    have cM : ∀ σ : St, callI TT 38 [.agg [.int .i64 0, .nilS, .int .i64 0], .int .i64 1] σ = some (.int .i64 1, σ.push ⟨[.int .i64 0, .nilS, .int .i64 0], 3, false⟩) := fun σ => m38n σ 1
    clear hS hI
    subst hσ
    simp [xI_seq, xI_region, xI_ret, regA, regOps, runOps, opStep, wantedA, opA, evo, evos, calleeA, lk, nif_eq, putE, paramsE, valS, val2, keepE, restrict, finA, resA, binA, binInt, ofConst, ofConst1, loadA, TK.isAgg, asVar, unA, builtinA, lenOpA, lenA, ileb_cast, ileb_eq, ieqb_dec, indexAddrA, inB_dec, evPairs, storeA, AV.cellsOf, pairsOf, xI_nil, binBool, gcE, evOpt, xI_block, xI_loopH, xI_condM, xI_exitM, xI_skip, xI_blk, exitA, ty3, ty4, ty41, cellsAt, getCells, takeN, dropN, fieldAddrA, allOne, AV.one, n_push, storeCellsA, putN, overN, ty2, ty33, ty38, ty41, St.push, St.get, St.set, hget, hset, cS, cI, cE, cH, cM]
  | some r =>
    obtain ⟨W, l, O⟩ := r
    rw [hx] at hS hI
    have hl : l.length < 1000 := by
      exact xsR_length hx
    obtain ⟨σ1, c1, r1, o1, n1⟩ := hS.row (σ := σ0) (args := [.int .i64 w, .int .i64 a, .int .i64 b, .int .i64 c]) rfl
    obtain ⟨σ2, s2, n2, q2, o2⟩ := boxed σ1 (.int .i64 0) .nilS (.int .i64 0) (.int .i64 W) (.sl σ0.n 0 l.length l.length) (.int .i64 O) rfl
    replace r1 := r1.old o2
    obtain ⟨σ3, c3, r3, o3, n3⟩ := hI.row (σ := σ2) (args := [.int .i64 w, .int .i64 a, .int .i64 b, .int .i64 c]) rfl
    replace r1 := r1.old o3
    replace q2 := cells_old (by omega) q2 o3
    obtain ⟨σ4, s4, n4, q4, o4⟩ := boxed σ3 (.int .i64 0) .nilS (.int .i64 0) (.int .i64 W) (.sl σ2.n 0 l.length l.length) (.int .i64 O) rfl
    replace r1 := r1.old o4
    replace r3 := r3.old o4
    replace q2 := cells_old (by omega) q2 o4
    have c5 := v34 W l O (by omega) σ4 [.agg [.int .i64 W, .sl σ2.n 0 l.length l.length, .int .i64 O], .agg [.int .i64 W, .sl σ0.n 0 l.length l.length, .int .i64 O]] (mapO_cons (frzV_agg (mapO_cons rfl (mapO_cons (r3.frz rfl (Nat.le_refl _)) (mapO_cons rfl rfl)))) (mapO_cons (frzV_agg (mapO_cons rfl (mapO_cons (r1.frz rfl (Nat.le_refl _)) (mapO_cons rfl rfl)))) rfl))
    obtain ⟨σ6, c6, r6, n6, u6⟩ := m38 σ4 σ2.n l.length 1 W O l rfl (by omega) (by decide) r3
    have hr1 := r1.lt
    replace r1 := r1.keep (by omega) (u6 _ (by omega) (by omega))
    have q4' : cellsAt σ6 (.ptr σ3.n 0) 3 = some [.int .i64 W, .sl σ2.n 0 l.length l.length, .int .i64 O] := by rw [← q4]; simp only [cellsAt]; rw [u6 _ (by omega) (by omega)]
    have q2' : cellsAt σ6 (.ptr σ1.n 0) 3 = some [.int .i64 W, .sl σ0.n 0 l.length l.length, .int .i64 O] := by rw [← q2]; simp only [cellsAt]; rw [u6 _ (by omega) (by omega)]
    have hfz : mapO (frzV σ6 frzDepth) [.agg [.int .i64 W, .sl σ2.n 0 l.length l.length, .int .i64 O], .int .i64 (1 : Nat)] = some [.agg [.int .i64 W, .lst l.length (ints (iotaF (1 : Nat) l.length)), .int .i64 O], .int .i64 (1 : Nat)] := mapO_cons (frzV_agg (mapO_cons rfl (mapO_cons (r6.frz (iotaF_length _ _).symm (Nat.le_refl _)) (mapO_cons rfl rfl)))) rfl
    have c7 := v39 W O l.length 1 (by omega) (by decide) σ6 _ hfz
    obtain ⟨σ8, c8, r8, o8, n8⟩ := hI.row (σ := σ6) (args := [.int .i64 w, .int .i64 a, .int .i64 b, .int .i64 c]) rfl
    replace r1 := r1.old o8
    replace r6 := r6.old o8
    replace q2' := cells_old (by omega) q2' o8
    have q4a := cells_old (by omega) q4' o8
    obtain ⟨σ9, s9, n9, q9, o9⟩ := boxed σ8 (.int .i64 0) .nilS (.int .i64 0) (.int .i64 W) (.sl σ6.n 0 l.length l.length) (.int .i64 O) rfl
    replace r1 := r1.old o9
    replace r6 := r6.old o9
    replace r8 := r8.old o9
    replace q2' := cells_old (by omega) q2' o9
    replace q4a := cells_old (by omega) q4a o9
    have c10 := v34 W l O (by omega) σ9 [.agg [.int .i64 W, .sl σ6.n 0 l.length l.length, .int .i64 O], .agg [.int .i64 W, .sl σ0.n 0 l.length l.length, .int .i64 O]] (mapO_cons (frzV_agg (mapO_cons rfl (mapO_cons (r8.frz rfl (Nat.le_refl _)) (mapO_cons rfl rfl)))) (mapO_cons (frzV_agg (mapO_cons rfl (mapO_cons (r1.frz rfl (Nat.le_refl _)) (mapO_cons rfl rfl)))) rfl))
    have hfz9 : mapO (frzV σ9 frzDepth) [.agg [.int .i64 W, .sl σ2.n 0 l.length l.length, .int .i64 O], .int .i64 (1 : Nat)] = some [.agg [.int .i64 W, .lst l.length (ints (iotaF (1 : Nat) l.length)), .int .i64 O], .int .i64 (1 : Nat)] := mapO_cons (frzV_agg (mapO_cons rfl (mapO_cons (r6.frz (iotaF_length _ _).symm (Nat.le_refl _)) (mapO_cons rfl rfl)))) rfl
    have c11 := v39 W O l.length 1 (by omega) (by decide) σ9 _ hfz9
    refine ⟨σ9, ?_⟩
    clear hS hI hfz hfz9 r1 r3 r6 r8 o1 o2 o3 o4 o8 o9 u6
    have z1 : ¬ (((1 + l.length : Nat) : Int) < 0) := by omega
    generalize ((1 + l.length : Nat) : Int) = z at *
    have z2 : 0 ≤ z := by omega
    simp only [show ((1 : Nat) : Int) = 1 from rfl] at c6 c7 c11
    simp [xI_seq, xI_region, xI_ret, regA, regOps, runOps, opStep, wantedA, opA, evo, evos, calleeA, lk, nif_eq, putE, paramsE, valS, val2, keepE, restrict, finA, resA, binA, binInt, ofConst, ofConst1, loadA, TK.isAgg, asVar, unA, builtinA, lenOpA, lenA, ileb_cast, ileb_eq, ieqb_dec, indexAddrA, inB_dec, evPairs, storeA, AV.cellsOf, pairsOf, xI_nil, binBool, gcE, evOpt, xI_block, xI_loopH, xI_condM, xI_exitM, xI_skip, xI_blk, exitA, ty3, ty4, ty41, allOne, AV.one, ty2, ty33, ty41, ty46, ty49, c1, s2, c3, q2, s4, q4, c5, c6, q4', q2', c7, c8, q4a, s9, q9, c10, c11, z1, z2]
end Go.Proofs.Ytonnbgjbohbibaa
