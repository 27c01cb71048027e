/- The law of the attack. Nothing is claimed here; no condition. -/
import Derived.Test.YthkdbkjkccogfaaDoorGj
import Derived.Test.YthkdbkjkccogfaaDoorGg
namespace Go.Proofs.YthkdbkjkccogfaaDoor
open Go Go.Abs
set_option linter.unusedSimpArgs false
set_option linter.unusedVariables false
open Go.Wd
noncomputable def b4 : Code := Tryd.f4.body.getD .skip
noncomputable def B4_0 : Code := (bodyC (bodyC (sndC (fstC (sndC (sndC (sndC (sndC (sndC (sndC (sndC (sndC (sndC (sndC (sndC b4)))))))))))))))
noncomputable def K4_0 : List It := .lp B4_0 :: .blk 0 :: .code (sndC (sndC (sndC (sndC (sndC (sndC (sndC (sndC (sndC (sndC (sndC (sndC b4)))))))))))) :: []
theorem xl4_0 {fi : FI} {env : Env} {σ : St} : exI TT fi K4_0 env σ = exI TT fi (.code B4_0 :: K4_0) env σ := by unfold K4_0; exact xI_lp
noncomputable def R4_0_0 : List It := .code (sndC (sndC (sndC (sndC (sndC (sndC (sndC (sndC (sndC (sndC (sndC (sndC b4)))))))))))) :: []
theorem eK4_0_0 : exitA 0 K4_0 = some R4_0_0 := rfl
theorem outR_bits (w t : Nat) : ∀ m n, (outR w t m n).all isBit = true
  | 0, _ => rfl
  | m + 1, n => by
    rw [outR, List.all_cons, outR_bits w t m]
    rw [isBit_nat, bb_nat (rbit_lt w n)]
    have := rbit_lt w n
    generalize rbit w n = r at *
    have : r = 0 ∨ r = 1 := by omega
    rcases this with rfl | rfl <;> rfl
theorem cR (w t s : Nat) (hw : w ≤ 7) (ht : t < 2 ^ w) (hs : s < 2 ^ w) (σ : St) : callI TT 21 [.agg [.int .i64 w, .int .i64 t], .int .i64 s, .int .i64 16] σ = some (.tup [.str (outR w t 16 s), .bool true], σ) := by
  have ok : rbOk w t s (16 : Nat) = true := rbOk_of (by omega) ht hs (by decide)
  have h := v21 w t s (16 : Nat) σ [.agg [.int .i64 w, .int .i64 t], .int .i64 s, .int .i64 (16 : Nat)] rfl
  rw [rbV_yes ok, ok] at h
  exact h
/-- A text with one bit turned. -/
def bend (l : List UInt8) (a r : Nat) : List UInt8 := l.take a ++ ([bb (1 - r)] ++ l.drop (a + 1))
theorem bend_len {l : List UInt8} {a r : Nat} (h : a < l.length) : (bend l a r).length = l.length := by simp [bend]; omega
theorem bend_ne {l : List UInt8} {a r j : Nat} (h : a < l.length) (hj : j ≠ a) : (bend l a r)[j]? = l[j]? := by
  rw [bend]
  by_cases h1 : j < a
  · rw [List.getElem?_append_left (by simp; omega), List.getElem?_take_of_lt h1]
  · rw [List.getElem?_append_right (by simp; omega), List.getElem?_append_right (by simp; omega), List.getElem?_drop]
    congr 1
    simp
    omega
theorem bend_bits {l : List UInt8} {a r : Nat} (hr : r < 2) (h : l.all isBit = true) : (bend l a r).all isBit = true := by
  rw [bend, List.all_append, List.all_append]
  have h1 : (l.take a).all isBit = true := List.all_eq_true.2 fun x hx => List.all_eq_true.1 h x (List.mem_of_mem_take hx)
  have h2 : (l.drop (a + 1)).all isBit = true := List.all_eq_true.2 fun x hx => List.all_eq_true.1 h x (List.mem_of_mem_drop hx)
  have h3 : [bb (1 - r)].all isBit = true := by
    have : r = 0 ∨ r = 1 := by omega
    rcases this with rfl | rfl <;> rfl
  rw [h1, h2, h3]; rfl
theorem flip_u8 {r : Nat} (h : r < 2) : wrapA .u8 (97 - ((bb r).toNat : Int)) = ((bb (1 - r)).toNat : Int) := by
  have : r = 0 ∨ r = 1 := by omega
  rcases this with rfl | rfl <;> rfl
theorem bsR_of {w t : Nat} {l : List UInt8} (hw : w ≤ 7) (ht : t < 2 ^ w) (hl : l.length = 16) (hb : l.all isBit = true) : bsR w t l = some (bestR w t l (2 ^ w)) := by
  refine bsR_yes ?_
  simp only [bsOk, Bool.and_eq_true, decide_eq_true_eq, isBits]
  exact ⟨vreg_of (by omega) ht, by omega, by omega, hb⟩
/-- The best states of the outputs behind a state. -/
theorem best_clean {w t s : Nat} (hs : s < 2 ^ w) : (bestR w t (outR w t 16 s) (2 ^ w)).2 = 16 ∧ (s : Int) ∈ (bestR w t (outR w t 16 s) (2 ^ w)).1 := by
  have hl := outR_length w t 16 s
  obtain ⟨h1, h2, h3⟩ := bestR_ok w t (outR w t 16 s) (2 ^ w)
  obtain ⟨_, _, h4⟩ := bestR_len w t (outR w t 16 s) (2 ^ w)
  have h5 := agC_full w t s (outR w t 16 s) 16 (fun j hj => outR_get w t 16 s j hj)
  rw [hl] at h1 h2 h3 h4
  have h6 := h2 s hs
  rw [h5] at h6
  have e : (bestR w t (outR w t 16 s) (2 ^ w)).2 = 16 := by omega
  exact ⟨e, h3 s hs (by rw [h5, e]; rfl)⟩
/-- The best states of outputs of which one is turned. -/
theorem best_bent {w t s a r : Nat} (hs : s < 2 ^ w) (ha : a < 16) : (15 : Int) ≤ (bestR w t (bend (outR w t 16 s) a r) (2 ^ w)).2 ∧ (bestR w t (bend (outR w t 16 s) a r) (2 ^ w)).1 ≠ [] ∧
    ∀ x ∈ (bestR w t (bend (outR w t 16 s) a r) (2 ^ w)).1, ∃ q : Nat, q < 2 ^ w ∧ x = q ∧ ((agC w t q (bend (outR w t 16 s) a r) 16 : Nat) : Int) = (bestR w t (bend (outR w t 16 s) a r) (2 ^ w)).2 := by
  have hl := outR_length w t 16 s
  have hb := bend_len (l := outR w t 16 s) (a := a) (r := r) (by omega)
  rw [hl] at hb
  obtain ⟨h1, h2, h3⟩ := bestR_ok w t (bend (outR w t 16 s) a r) (2 ^ w)
  rw [hb] at h1 h2 h3
  have h5 := (agC_near w t s a (bend (outR w t 16 s) a r) 16 (fun j hj hja => by rw [bend_ne (by omega) hja]; exact outR_get w t 16 s j hj)).2
  have h6 := h2 s hs
  refine ⟨by omega, ?_, h1⟩
  -- some state agrees most
  intro e
  have : ∀ k, 0 < k → (bestR w t (bend (outR w t 16 s) a r) k).1 ≠ [] := by
    intro k
    induction k with
    | zero => intro h; omega
    | succ k ih =>
      intro _
      rw [bestR, bst]
      split
      · simp
      · split
        · simp
        · rename_i n1 n2
          by_cases hk : k = 0
          · subst hk; simp [bestR] at n1; omega
          · exact ih (by omega)
  exact this _ (by omega) e

set_option maxHeartbeats 1000000 in
theorem l4 (w t b : Nat) (hw : w ≤ 7) (ht : t < 2 ^ w) (bt : List UInt8) (hbt : bt.length = 16) (L : List Int) (hL : L.length ≤ 1024) (m : Int) (σ : St) (hg : cellsAt σ (.ptr 0 0) 2 = some [.int .i64 w, .int .i64 t]) (hr : Row σ b L)
    (hx : ∀ x ∈ L, ∃ q : Nat, q < 2 ^ w ∧ x = q ∧ ((agC w t q bt 16 : Nat) : Int) = m) : ∀ (suf pre : List Int), L = pre ++ suf →
    exI TT (FI.of Tryd.f4 (TT.an 4)) K4_0 [(5, .ptr 0 0), (13, .str bt), (14, .sl b 0 L.length L.length), (15, .int .i64 m), (17, .int .i64 pre.length)] σ = some (.bool true, σ) := by
  intro suf
  induction suf with
  | nil =>
    intro pre hp
    have hpl : pre.length = L.length := by simp [hp]
    rw [hpl]
    rw [fi4]
    rw [xl4_0]
    simp only [B4_0, b4, Tryd.f4, Option.getD, fstC, sndC, bodyC, thnC, elsC]
    simp [xI_seq, xI_region, xI_ret, regA, regOps, runOps, opStep, wantedA, opA, evo, evos, calleeA, lk, nif_eq, putE, paramsE, valS, val2, keepE, restrict, finA, resA, binA, binInt, ofConst, ofConst1, loadA, TK.isAgg, asVar, unA, builtinA, lenOpA, lenA, ileb_cast, ileb_eq, ieqb_dec, indexAddrA, inB_dec, evPairs, storeA, AV.cellsOf, pairsOf, xI_nil, binBool, gcE, evOpt, tagZ, xI_block, xI_loopH, xI_condM, xI_exitM, xI_skip, xI_blk, exitA, ty2, ty3, ty4, ty5, ty9, ty24, ty27, ty32, ty36, eK4_0_0, runTr, pairsOk, pairOk, lstAt, lastOf, sameVal, AV.eqv, eqvs, eqvs_ints, regOps, blt_dec, cond_true, cond_false, fieldAddrA, allOne, AV.one, n_push, ty2, ty27, ty9, ty5, ty24, ty32, convA, ty36, indexA]
    simp only [R4_0_0, b4, Tryd.f4, Option.getD, fstC, sndC, bodyC, thnC, elsC]
    simp [xI_seq, xI_region, xI_ret, regA, regOps, runOps, opStep, wantedA, opA, evo, evos, calleeA, lk, nif_eq, putE, paramsE, valS, val2, keepE, restrict, finA, resA, binA, binInt, ofConst, ofConst1, loadA, TK.isAgg, asVar, unA, builtinA, lenOpA, lenA, ileb_cast, ileb_eq, ieqb_dec, indexAddrA, inB_dec, evPairs, storeA, AV.cellsOf, pairsOf, xI_nil, binBool, gcE, evOpt, tagZ, xI_block, xI_loopH, xI_condM, xI_exitM, xI_skip, xI_blk, exitA, ty2, ty3, ty4, ty5, ty9, ty24, ty27, ty32, ty36, eK4_0_0, runTr, pairsOk, pairOk, lstAt, lastOf, sameVal, AV.eqv, eqvs, eqvs_ints, regOps, blt_dec, cond_true, cond_false, fieldAddrA, allOne, AV.one, n_push, ty2, ty27, ty9, ty5, ty24, ty32, convA, ty36, indexA]
  | cons x suf ih =>
    intro pre hp
    have hll : L.length = pre.length + (suf.length + 1) := by rw [hp]; simp
    have h1 := ih (pre ++ [x]) (by simp [hp])
    simp only [List.length_append, List.length_singleton] at h1
    have hq := hr.read (i := pre.length) (x := x) (by simp [hp])
    obtain ⟨q, hq2, rfl, hm⟩ := hx x (by simp [hp])
    have c1 := cR w t q hw ht hq2 σ
    have c2 : callI TT 24 [.str (outR w t 16 q), .str bt] σ = some (.int .i64 m, σ) := by
      have := v24 w t q bt (by omega) σ [.str (outR w t bt.length q), .str bt] rfl
      rw [hbt, hm] at this; exact this
    have hol := outR_length w t 16 q
    have hlt : (pre.length : Int) < (L.length : Int) := by omega
    have hlt2 : ¬ L.length ≤ pre.length := by omega
    have hlt3 : pre.length < L.length := by omega
    have hwr := wrapS (n := pre.length) (by omega)
    have hi1 : ((pre.length + 1 : Nat) : Int) = (pre.length : Int) + 1 := by omega
    rw [hi1] at h1
    rw [← h1]
    clear h1 ih
    conv => lhs; rw [fi4, xl4_0]; simp only [B4_0, b4, Tryd.f4, Option.getD, fstC, sndC, bodyC, thnC, elsC]
    rw [fi4]
    simp [xI_seq, xI_region, xI_ret, regA, regOps, runOps, opStep, wantedA, opA, evo, evos, calleeA, lk, nif_eq, putE, paramsE, valS, val2, keepE, restrict, finA, resA, binA, binInt, ofConst, ofConst1, loadA, TK.isAgg, asVar, unA, builtinA, lenOpA, lenA, ileb_cast, ileb_eq, ieqb_dec, indexAddrA, inB_dec, evPairs, storeA, AV.cellsOf, pairsOf, xI_nil, binBool, gcE, evOpt, tagZ, xI_block, xI_loopH, xI_condM, xI_exitM, xI_skip, xI_blk, exitA, ty2, ty3, ty4, ty5, ty9, ty24, ty27, ty32, ty36, eK4_0_0, runTr, pairsOk, pairOk, lstAt, lastOf, sameVal, AV.eqv, eqvs, eqvs_ints, regOps, blt_dec, cond_true, cond_false, fieldAddrA, allOne, AV.one, n_push, ty2, ty27, ty9, ty5, ty24, ty32, convA, ty36, indexA, hg, hq, c1, c2, hol, hlt, hlt2, hlt3, hwr]

set_option maxHeartbeats 4000000 in
theorem w4 (code : List Nat) (hb : ∀ x ∈ code, x < 256) (more : List Nat) (hm : ∀ x ∈ more, x < 256) : FnV TT 4 [.lst code.length (byts code), .lst more.length (byts more)] (.bool true) := by
  refine FnV.mk fn4 rfl md4 ?_ (fun _ => rfl) rfl
  rw [fi4]
  have cl := v18 code more ⟨[], 0⟩ [.lst code.length (byts code), .lst more.length (byts more)] rfl
  by_cases hlong : 48 < code.length ∨ 48 < more.length
  · have e : (decide (48 < code.length) || decide (48 < more.length)) = true := by simpa using hlong
    rw [e] at cl
    refine ⟨⟨[], 0⟩, ?_⟩
    simp [xI_seq, xI_region, xI_ret, regA, regOps, runOps, opStep, wantedA, opA, evo, evos, calleeA, lk, nif_eq, putE, paramsE, valS, val2, keepE, restrict, finA, resA, binA, binInt, ofConst, ofConst1, loadA, TK.isAgg, asVar, unA, builtinA, lenOpA, lenA, ileb_cast, ileb_eq, ieqb_dec, indexAddrA, inB_dec, evPairs, storeA, AV.cellsOf, pairsOf, xI_nil, binBool, gcE, evOpt, tagZ, xI_block, xI_loopH, xI_condM, xI_exitM, xI_skip, xI_blk, exitA, ty2, ty3, ty4, ty5, ty9, ty24, ty27, ty32, ty36, eK4_0_0, runTr, pairsOk, pairOk, lstAt, lastOf, sameVal, AV.eqv, eqvs, eqvs_ints, regOps, blt_dec, cond_true, cond_false, fieldAddrA, allOne, AV.one, n_push, ty2, ty27, ty9, ty5, ty24, ty32, convA, ty36, indexA, cl]
  · have e : (decide (48 < code.length) || decide (48 < more.length)) = false := by simp; omega
    rw [e] at cl
    obtain ⟨w, t, hw, ht, vr⟩ := v19 code hb (by omega)
    have cr := vr ⟨[], 0⟩ [.lst code.length (byts code)] rfl
    have hN2 : 1 ≤ 2 ^ w := Nat.one_le_two_pow
    have hN7 : 2 ^ w ≤ 2 ^ 7 := Nat.pow_le_pow_right (by decide) hw
    obtain ⟨s, hs, vn⟩ := v20 more hm (by omega) (2 ^ w) (by omega)
    replace hs : s < 2 ^ w := by omega
    obtain ⟨a, ha, va⟩ := v23 more hm (by omega) 2 (by decide) 16 (by decide)
    replace ha : a < 16 := by omega
    have hp := pow_i w (by omega)
    have hw64 : wrapA .u64 (w : Int) = (w : Int) := w_wrap .u64 (by simp only [topOf]; omega)
    obtain ⟨σ, hσ, g0, hn0, _⟩ := RGB.s2 (σ := (⟨[], 0⟩ : St).push ⟨[.int .i64 0, .int .i64 0], 2, false⟩) (D := 0) (a := 0) (b := 0) get_push_same w t
    have hn : σ.n = 1 := hn0
    have p0 := g0.c0
    have p0c := g0.cc
    have cn := vn σ [.lst more.length (byts more), .int .i64 (2 ^ w : Nat)] rfl
    have c1 := cR w t s hw ht hs σ
    obtain ⟨k1, k2⟩ := best_clean (w := w) (t := t) hs
    have hl16 := outR_length w t 16 s
    have hbits := outR_bits w t 16 s
    have hSt : ∃ x, (outR w t 16 s)[a]? = some (bb x) ∧ x < 2 := ⟨_, outR_get w t 16 s a ha, rbit_lt _ _⟩
    obtain ⟨r, hr, hr2⟩ := hSt
    obtain ⟨m1, m2, m3⟩ := best_bent (w := w) (t := t) (s := s) (a := a) (r := r) hs ha
    have hbl := bend_len (l := outR w t 16 s) (a := a) (r := r) (by omega)
    rw [hl16] at hbl
    have hI := r14 w t (outR w t 16 s) (by omega)
    have hJ := r14 w t (bend (outR w t 16 s) a r) (by omega)
    rw [bsR_of hw ht hl16 hbits] at hI
    rw [bsR_of hw ht hbl (bend_bits hr2 hbits)] at hJ
    have z1 := (bestR_len w t (outR w t 16 s) (2 ^ w)).1
    have z2 := (bestR_len w t (bend (outR w t 16 s) a r) (2 ^ w)).1
    generalize bestR w t (outR w t 16 s) (2 ^ w) = P at *
    obtain ⟨A, mo⟩ := P
    simp only at k1 k2 z1
    subst k1
    have hbl2 := hbl
    generalize outR w t 16 s = bits at *
    have hbe : binStr .add (bits.take a ++ [bb (1 - r)]) (bits.drop (a + 1)) = some (.str (bend bits a r)) := by
      simp only [binStr, bend]
      rw [if_pos (by simp; omega), List.append_assoc]
    have hbf : binStr .add (bits.take a) [bb (1 - r)] = some (.str (bits.take a ++ [bb (1 - r)])) := by
      simp only [binStr]
      rw [if_pos (by simp; omega)]
    generalize hbt : bend bits a r = bt at *
    have hs1 : ∀ σ : St, sliceA TT σ 9 (.str bits) none (some (.int .i64 a)) = some (.str (bits.take a)) := by
      intro σ
      have : (a : Int) ≤ 16 := by omega
      simp [sliceA, ty9, boundA, hl16, this]
    have hs2 : ∀ σ : St, sliceA TT σ 9 (.str bits) (some (.int .i64 ((a : Int) + 1))) none = some (.str (bits.drop (a + 1))) := by
      intro σ
      have h1 : (a : Int) + 1 ≤ 16 := by omega
      have h2 : 0 ≤ (a : Int) + 1 := by omega
      have h3 : ((a : Int) + 1).toNat = a + 1 := by omega
      have h4 : bits.take 16 = bits := by rw [← hl16]; exact List.take_length
      simp [sliceA, ty9, boundA, hl16, h1, h2, h3, h4]
    generalize bestR w t bt (2 ^ w) = P at *
    obtain ⟨L, m⟩ := P
    simp only at m1 m2 m3 z2
    obtain ⟨b1, σ1, c2, r1, o1, e1⟩ := FnP.row hI (σ := σ) (args := [.agg [.int .i64 w, .int .i64 t], .str bits]) rfl
    have g1 := g0.keep (o1.2 0 (by omega))
    have p1c := g1.cc
    have c3 := v22 A s (by omega) k2 σ1 [.sl b1 0 A.length A.length, .int .i64 s] (mapO_cons (r1.frz rfl (Nat.le_refl _)) rfl)
    have c4 := va σ1 [.lst more.length (byts more), .int .i64 (2 : Nat), .int .i64 (16 : Nat)] rfl
    obtain ⟨σ2, e2⟩ : ∃ σ2, σ1.push ⟨[.int .u8 (bb (1 - r)).toNat], 1, false⟩ = σ2 := ⟨_, rfl⟩
    have l1 := r1.lt
    have g2 := g1.keep (σ' := σ2) (by subst e2; exact get_push_lt (by omega))
    have p2c := g2.cc
    have n2 : σ2.n = σ1.n + 1 := by subst e2; rfl
    have b2 : buildSliceA TT σ1 32 1 [(0, .int .u8 (bb (1 - r)).toNat)] = some (.sl σ1.n 0 1 1, σ2) := by rw [← e2]; exact bb1 σ1 _
    have t2 : convA TT σ2 32 9 (.sl σ1.n 0 1 1) = some (.str [bb (1 - r)], σ2) := by rw [← e2]; exact toStr (l := [bb (1 - r)]) (show BRow (σ1.push ⟨[.int .u8 (bb (1 - r)).toNat], 1, false⟩) σ1.n [bb (1 - r)] from BRow.push σ1 [bb (1 - r)]) rfl
    have t3 : firstA σ2 1 1 (.sl σ1.n 0 1 1) = some [.int .u8 (bb (1 - r)).toNat] := by rw [← e2]; simp [firstA, get_push_same, getCells, takeN, dropN]
    have t4 : bytesOf [.int .u8 (bb (1 - r)).toNat] = some [bb (1 - r)] := bytesOf_intsOf [bb (1 - r)]
    have hfl := flip_u8 hr2
    obtain ⟨b3, σ3, c5, r3, o3, e3⟩ := FnP.row hJ (σ := σ2) (args := [.agg [.int .i64 w, .int .i64 t], .str bt]) rfl
    have g3 := g2.keep (o3.2 0 (by omega))
    have hL0 : ¬ L.length = 0 := fun e => m2 (List.length_eq_zero_iff.1 e)
    have m15 : ¬ m < 15 := by omega
    have fin := l4 w t b3 hw ht bt hbl L (by omega) m σ3 g3.cc r3 m3 L [] rfl
    have hga : ∀ h : a < bits.length, bits[a]'h = bb r := fun h => by
      have e := List.getElem?_eq_getElem h
      rw [hr] at e; exact (Option.some.inj e).symm
    have hwa := wrapS (n := a) (by omega)
    have ha16 : (a : Int) < 16 := by omega
    simp only [List.length_nil, show ((0 : Nat) : Int) = 0 from rfl, Int.natCast_zero] at fin
    simp only [show ((2 : Nat) : Int) = 2 from rfl, show ((16 : Nat) : Int) = 16 from rfl] at c4
    have hn16 : (bits.length : Int) = 16 := by omega
    generalize 2 ^ w = N at *
    refine ⟨σ3, ?_⟩
    clear hI hJ m3 vr vn va hm hb
    rw [← fin, fi4]
    simp [xI_seq, xI_region, xI_ret, regA, regOps, runOps, opStep, wantedA, opA, evo, evos, calleeA, lk, nif_eq, putE, paramsE, valS, val2, keepE, restrict, finA, resA, binA, binInt, ofConst, ofConst1, loadA, TK.isAgg, asVar, unA, builtinA, lenOpA, lenA, ileb_cast, ileb_eq, ieqb_dec, indexAddrA, inB_dec, evPairs, storeA, AV.cellsOf, pairsOf, xI_nil, binBool, gcE, evOpt, tagZ, xI_block, xI_loopH, xI_condM, xI_exitM, xI_skip, xI_blk, exitA, ty2, ty3, ty4, ty5, ty9, ty24, ty27, ty32, ty36, eK4_0_0, runTr, pairsOk, pairOk, lstAt, lastOf, sameVal, AV.eqv, eqvs, eqvs_ints, regOps, blt_dec, cond_true, cond_false, fieldAddrA, allOne, AV.one, n_push, ty2, ty27, ty9, ty5, ty24, ty32, convA, ty36, indexA, cl, cr, hσ, p0, p0c, hw64, hp, cn, c1, hl16, hn16, c2, p1c, c3, c4, b2, t2, t3, t4, hs1, hs2, hbe, hbf, hr, hga, hfl, ha16, ha, hwa, p2c, c5, hL0, m15]
    rfl

end Go.Proofs.YthkdbkjkccogfaaDoor
