/- Contracts: seeds behind what is seen. Nothing is claimed here; no condition. -/
import Derived.Test.YtonnbgjbohbibaaEj
import Derived.Test.YtonnbgjbohbibaaWx
namespace Go.Proofs.Ytonnbgjbohbibaa
open Go Go.Abs
set_option linter.unusedSimpArgs false
set_option linter.unusedVariables false
open Go.Wd
/-- Whether a seed shows what is seen. -/
def fit (a c : Nat) : List Nat → Nat → Bool
  | [], _ => true
  | s :: r, x => decide (divN x 256 = s) && fit a c r (modN (addN (mulN a x) c) 65536)
/-- Those that fit, one after the other. -/
def scan (f : Nat → Nat) (p : Nat → Bool) : Nat → Nat → List Nat
  | 0, _ => []
  | m + 1, k => if p (f k) = true then f k :: scan f p m (k + 1) else scan f p m (k + 1)
theorem scan_eq (f : Nat → Nat) (p : Nat → Bool) : ∀ m k, scan f p m k = ((List.range' k m).map f).filter p
  | 0, _ => rfl
  | m + 1, k => by
    rw [scan, List.range'_succ, List.map_cons, List.filter_cons, scan_eq f p m (k + 1)]
theorem scan_zero (f : Nat → Nat) (p : Nat → Bool) (m : Nat) : scan f p m 0 = ((List.range m).map f).filter p := by rw [scan_eq, List.range_eq_range']
theorem fit_div {a c s : Nat} {r : List Nat} {x : Nat} (h : fit a c (s :: r) x = true) : x / 256 = s := by
  simp only [fit, Bool.and_eq_true, decide_eq_true_eq] at h
  exact h.1
/-- Both ways of looking find the same seeds. -/
theorem seeds_same (a c s : Nat) (r : List Nat) (hs : s ≤ 255) : scan (fun x => x) (fit a c (s :: r)) 65536 0 = scan (fun i => addN (mulN 256 s) i) (fit a c (s :: r)) 256 0 := by
  rw [scan_zero, scan_zero, List.map_id', filter_block (s := s) (by omega) (fun x h => fit_div h)]
  rfl
theorem scan_len (f : Nat → Nat) (p : Nat → Bool) : ∀ m k, (scan f p m k).length ≤ m
  | 0, _ => Nat.le_refl _
  | m + 1, k => by
    have := scan_len f p m (k + 1)
    rw [scan]; split <;> simp <;> omega
def sbOk (a c : Int) (l : List Int) : Bool := inR a 0 65535 && inR c 0 65535 && inR l.length 1 64 && allR l 0 255
def sbR (a c : Int) (l : List Int) : Option (List Int) := if sbOk a c l = true then some (nints (scan (fun x => x) (fit a.toNat c.toNat (nats l)) 65536 0)) else none
theorem sbR_no {a c : Int} {l : List Int} (h : sbOk a c l = false) : sbR a c l = none := by simp [sbR, h]
theorem sbR_yes {a c : Nat} {A : List Nat} (h : sbOk a c (nints A) = true) : sbR a c (nints A) = some (nints (scan (fun x => x) (fit a c A) 65536 0)) := by simp [sbR, h, nats_nints]
theorem sbR_length {a c : Int} {l out : List Int} (h : sbR a c l = some out) : out.length ≤ 65536 := by
  unfold sbR at h
  split at h
  · cases h; rw [nints_length]; exact scan_len _ _ _ _
  · cases h
theorem sb_nat {a c : Int} {l : List Int} (h : sbOk a c l = true) : ∃ (x y s : Nat) (r : List Nat), a = x ∧ c = y ∧ l = nints (s :: r) ∧ x ≤ 65535 ∧ y ≤ 65535 ∧ (s :: r).length ≤ 64 ∧ ∀ t ∈ s :: r, t ≤ 255 := by
  simp only [sbOk, Bool.and_eq_true] at h
  obtain ⟨⟨⟨h1, h2⟩, h3⟩, h4⟩ := h
  have h1 := inR_iff.1 h1
  have h2 := inR_iff.1 h2
  have h3 := inR_iff.1 h3
  have h4 := allR_spec h4
  obtain ⟨A, rfl⟩ := of_nonneg (l := l) fun x hx => (h4 x hx).1
  rw [nints_length] at h3
  cases A with
  | nil => simp at h3
  | cons s r =>
    refine ⟨a.toNat, c.toNat, s, r, by omega, by omega, rfl, by omega, by omega, by omega, fun t ht => ?_⟩
    have := h4 t (List.mem_map.2 ⟨t, ht, rfl⟩)
    omega

noncomputable def b28 : Code := Try.f28.body.getD .skip
noncomputable def B28_0 : Code := (bodyC (bodyC (sndC (fstC (sndC (sndC (sndC b28)))))))
noncomputable def K28_0 : List It := .lp B28_0 :: .blk 0 :: .code (sndC (sndC (sndC (sndC b28)))) :: []
theorem xl28_0 {fi : FI} {env : Env} {σ : St} : exI TT fi K28_0 env σ = exI TT fi (.code B28_0 :: K28_0) env σ := by unfold K28_0; exact xI_lp
noncomputable def R28_0_0 : List It := .code (sndC (sndC (sndC (sndC b28)))) :: []
theorem eK28_0_0 : exitA 0 K28_0 = some R28_0_0 := rfl
noncomputable def B28_1 : Code := (bodyC (bodyC (sndC (fstC (sndC (sndC (bodyC (fstC (sndC (sndC (bodyC (bodyC (sndC (fstC (sndC (sndC (sndC b28)))))))))))))))))
noncomputable def K28_1 : List It := .lp B28_1 :: .blk 2 :: .code (sndC (sndC (sndC (bodyC (fstC (sndC (sndC (bodyC (bodyC (sndC (fstC (sndC (sndC (sndC b28)))))))))))))) :: .blk 1 :: .code (sndC (sndC (sndC (bodyC (bodyC (sndC (fstC (sndC (sndC (sndC b28)))))))))) :: K28_0
theorem xl28_1 {fi : FI} {env : Env} {σ : St} : exI TT fi K28_1 env σ = exI TT fi (.code B28_1 :: K28_1) env σ := by unfold K28_1; exact xI_lp
noncomputable def R28_1_2 : List It := .code (sndC (sndC (sndC (bodyC (fstC (sndC (sndC (bodyC (bodyC (sndC (fstC (sndC (sndC (sndC b28)))))))))))))) :: .blk 1 :: .code (sndC (sndC (sndC (bodyC (bodyC (sndC (fstC (sndC (sndC (sndC b28)))))))))) :: K28_0
theorem eK28_1_2 : exitA 2 K28_1 = some R28_1_2 := rfl
noncomputable def R28_1_1 : List It := .code (sndC (sndC (sndC (bodyC (bodyC (sndC (fstC (sndC (sndC (sndC b28)))))))))) :: K28_0
theorem eK28_1_1 : exitA 1 K28_1 = some R28_1_1 := rfl
theorem eK28_1_0 : exitA 0 K28_1 = some R28_0_0 := rfl
theorem i28F (a c len q z x i kk : Int) (b n : Nat) (L : AV) (σ : St) (hL : lenA L = some n) :
    exI TT (FI.of Try.f28 (TT.an 28)) K28_1 [(0, .int .i64 a), (1, .int .i64 c), (2, L), (8, .sl b 0 q.toNat q.toNat), (9, .int .i64 z), (10, .int .i64 x), (11, .bool false), (12, .int .i64 i), (30, .int .i64 kk)] σ =
      exI TT (FI.of Try.f28 (TT.an 28)) R28_1_2 [(0, .int .i64 a), (1, .int .i64 c), (2, L), (8, .sl b 0 q.toNat q.toNat), (9, .int .i64 z), (10, .int .i64 x), (11, .bool false), (12, .int .i64 i), (30, .int .i64 kk), (40, .bool false)] σ := by
  rw [fi28]
  rw [xl28_1]
  simp only [B28_1, b28, Try.f28, Option.getD, fstC, sndC, bodyC, thnC, elsC]
  simp [xI_seq, xI_region, xI_ret, regA, regOps, runOps, opStep, wantedA, opA, evo, evos, calleeA, lk, nif_eq, putE, paramsE, valS, val2, keepE, restrict, finA, resA, binA, binInt, ofConst, ofConst1, loadA, TK.isAgg, asVar, unA, builtinA, lenOpA, lenA, ileb_cast, ileb_eq, ieqb_dec, indexAddrA, inB_dec, evPairs, storeA, AV.cellsOf, pairsOf, xI_nil, binBool, gcE, evOpt, xI_block, xI_loopH, xI_condM, xI_exitM, xI_skip, xI_blk, exitA, ty2, ty3, ty4, ty33, eK28_0_0, eK28_1_2, eK28_1_1, eK28_1_0]
theorem i28 (a c : Nat) (ha : a ≤ 65535) (hc : c ≤ 65535) (A : List Nat) (hA : ∀ s ∈ A, s ≤ 255) (len : Nat) (hlen : len = A.length) (hl : len ≤ 64) (b q : Nat) (z kk : Int) (σ : St) : ∀ (suf pre : List Nat) (x : Nat), A = pre ++ suf → x ≤ 65535 →
    ∃ x' i' : Int, exI TT (FI.of Try.f28 (TT.an 28)) K28_1 [(0, .int .i64 a), (1, .int .i64 c), (2, .lst len (ints (nints A))), (8, .sl b 0 q q), (9, .int .i64 z), (10, .int .i64 x), (11, .bool true), (12, .int .i64 pre.length), (30, .int .i64 kk)] σ =
      exI TT (FI.of Try.f28 (TT.an 28)) R28_1_2 [(0, .int .i64 a), (1, .int .i64 c), (2, .lst len (ints (nints A))), (8, .sl b 0 q q), (9, .int .i64 z), (10, .int .i64 x'), (11, .bool (fit a c suf x)), (12, .int .i64 i'), (30, .int .i64 kk), (40, .bool false)] σ := by
  intro suf
  induction suf with
  | nil =>
    intro pre x hp hx
    have hll : len = pre.length := by rw [hlen, hp]; simp
    subst hll
    refine ⟨x, pre.length, ?_⟩
    rw [fi28]
    rw [xl28_1]
    simp only [B28_1, b28, Try.f28, Option.getD, fstC, sndC, bodyC, thnC, elsC]
    simp [xI_seq, xI_region, xI_ret, regA, regOps, runOps, opStep, wantedA, opA, evo, evos, calleeA, lk, nif_eq, putE, paramsE, valS, val2, keepE, restrict, finA, resA, binA, binInt, ofConst, ofConst1, loadA, TK.isAgg, asVar, unA, builtinA, lenOpA, lenA, ileb_cast, ileb_eq, ieqb_dec, indexAddrA, inB_dec, evPairs, storeA, AV.cellsOf, pairsOf, xI_nil, binBool, gcE, evOpt, xI_block, xI_loopH, xI_condM, xI_exitM, xI_skip, xI_blk, exitA, ty2, ty3, ty4, ty33, eK28_0_0, eK28_1_2, eK28_1_1, eK28_1_0, fit]
  | cons s suf ih =>
    intro pre x hp hx
    have hll : len = pre.length + (suf.length + 1) := by rw [hlen, hp]; simp
    have hg : (nints A)[pre.length]? = some (s : Int) := nints_get (by simp [hp])
    have hlt : ¬ len ≤ pre.length := by omega
    have hlt2 : pre.length < len := by omega
    have hw := wrapS (n := pre.length) (by omega)
    have hax : a * x ≤ 65535 * 65535 := Nat.mul_le_mul ha (by omega)
    have m1 : wrapA .i64 ((a : Int) * (x : Int)) = ((mulN a x : Nat) : Int) := by rw [← Int.natCast_mul]; exact n_wrap (a := mulN a x) (by show a * x ≤ _; omega)
    have m2 : wrapA .i64 (((mulN a x : Nat) : Int) + (c : Int)) = ((addN (mulN a x) c : Nat) : Int) := by rw [← Int.natCast_add]; exact n_wrap (a := addN (mulN a x) c) (by show a * x + c ≤ _; omega)
    have hx' : modN (addN (mulN a x) c) 65536 ≤ 65535 := by have : modN (addN (mulN a x) c) 65536 < 65536 := Nat.mod_lt _ (by decide)
                                                            omega
    have m3 : bitsA .and .i64 ((addN (mulN a x) c : Nat) : Int) 65535 = some (.int .i64 ((modN (addN (mulN a x) c) 65536 : Nat) : Int)) := by
      have h := w_and .i64 (a := addN (mulN a x) c) (b := 65535) (by show a * x + c ≤ _; simp only [topOf]; omega) (by decide)
      rw [and_word] at h
      exact h
    have m4 : shrA (x : Int) (min 8 IntKind.i64.bits) = ((divN x 256 : Nat) : Int) := rfl
    by_cases hs : divN x 256 = s
    · have hs' : ((divN x 256 : Nat) : Int) = (s : Int) := by omega
      obtain ⟨x', i', h1⟩ := ih (pre ++ [s]) (modN (addN (mulN a x) c) 65536) (by simp [hp]) hx'
      refine ⟨x', i', ?_⟩
      rw [show fit a c (s :: suf) x = fit a c suf (modN (addN (mulN a x) c) 65536) by simp [fit, hs]]
      simp only [List.length_append, List.length_singleton] at h1
      rw [fi28] at h1 ⊢
      rw [xl28_1]
      simp only [B28_1, b28, Try.f28, Option.getD, fstC, sndC, bodyC, thnC, elsC]
      simp [xI_seq, xI_region, xI_ret, regA, regOps, runOps, opStep, wantedA, opA, evo, evos, calleeA, lk, nif_eq, putE, paramsE, valS, val2, keepE, restrict, finA, resA, binA, binInt, ofConst, ofConst1, loadA, TK.isAgg, asVar, unA, builtinA, lenOpA, lenA, ileb_cast, ileb_eq, ieqb_dec, indexAddrA, inB_dec, evPairs, storeA, AV.cellsOf, pairsOf, xI_nil, binBool, gcE, evOpt, xI_block, xI_loopH, xI_condM, xI_exitM, xI_skip, xI_blk, exitA, ty2, ty3, ty4, ty33, eK28_0_0, eK28_1_2, eK28_1_1, eK28_1_0, hlt, hlt2, hw, m1, m2, m3, m4, lst_read hg, hs', hs]
      simpa using h1
    · have hs' : ¬ ((divN x 256 : Nat) : Int) = (s : Int) := by omega
      have h2 := i28F a c 0 (q : Int) z (modN (addN (mulN a x) c) 65536 : Nat) ((pre.length : Int) + 1) kk b len (.lst len (ints (nints A))) σ rfl
      refine ⟨(modN (addN (mulN a x) c) 65536 : Nat), (pre.length : Int) + 1, ?_⟩
      rw [show fit a c (s :: suf) x = false by simp [fit, hs]]
      simp only [Int.toNat_natCast] at h2
      rw [fi28] at h2 ⊢
      rw [xl28_1]
      simp only [B28_1, b28, Try.f28, Option.getD, fstC, sndC, bodyC, thnC, elsC]
      simp [xI_seq, xI_region, xI_ret, regA, regOps, runOps, opStep, wantedA, opA, evo, evos, calleeA, lk, nif_eq, putE, paramsE, valS, val2, keepE, restrict, finA, resA, binA, binInt, ofConst, ofConst1, loadA, TK.isAgg, asVar, unA, builtinA, lenOpA, lenA, ileb_cast, ileb_eq, ieqb_dec, indexAddrA, inB_dec, evPairs, storeA, AV.cellsOf, pairsOf, xI_nil, binBool, gcE, evOpt, xI_block, xI_loopH, xI_condM, xI_exitM, xI_skip, xI_blk, exitA, ty2, ty3, ty4, ty33, eK28_0_0, eK28_1_2, eK28_1_1, eK28_1_0, hlt, hlt2, hw, m1, m2, m3, m4, lst_read hg, hs', hs]
      simpa using h2
theorem l28 (a c : Nat) (ha : a ≤ 65535) (hc : c ≤ 65535) (A : List Nat) (hA : ∀ s ∈ A, s ≤ 255) (len : Nat) (hlen : len = A.length) (hl : len ≤ 64) : ∀ (m k : Nat) (out : List Nat) (b : Nat) (σ : St), k + m = 65536 → out.length ≤ k → Row σ b (nints out) →
    ∃ σ' b' q', exI TT (FI.of Try.f28 (TT.an 28)) K28_0 [(0, .int .i64 a), (1, .int .i64 c), (2, .lst len (ints (nints A))), (8, .sl b 0 out.length out.length), (30, .int .i64 k)] σ = some (.tup [.sl b' 0 q' q', .bool true], σ') ∧ q' = (out ++ scan (fun x => x) (fit a c A) m k).length ∧ Row σ' b' (nints (out ++ scan (fun x => x) (fit a c A) m k)) := by
  intro m
  induction m with
  | zero =>
    intro k out b σ hk ho hr
    obtain rfl : k = 65536 := by omega
    refine ⟨σ, b, out.length, ?_, by simp [scan], by simpa [scan] using hr⟩
    rw [fi28]
    rw [xl28_0]
    simp only [B28_0, b28, Try.f28, Option.getD, fstC, sndC, bodyC, thnC, elsC]
    simp [xI_seq, xI_region, xI_ret, regA, regOps, runOps, opStep, wantedA, opA, evo, evos, calleeA, lk, nif_eq, putE, paramsE, valS, val2, keepE, restrict, finA, resA, binA, binInt, ofConst, ofConst1, loadA, TK.isAgg, asVar, unA, builtinA, lenOpA, lenA, ileb_cast, ileb_eq, ieqb_dec, indexAddrA, inB_dec, evPairs, storeA, AV.cellsOf, pairsOf, xI_nil, binBool, gcE, evOpt, xI_block, xI_loopH, xI_condM, xI_exitM, xI_skip, xI_blk, exitA, ty2, ty3, ty4, ty33, eK28_0_0, eK28_1_2, eK28_1_1, eK28_1_0]
    simp only [R28_0_0, b28, Try.f28, Option.getD, fstC, sndC, bodyC, thnC, elsC]
    simp [xI_seq, xI_region, xI_ret, regA, regOps, runOps, opStep, wantedA, opA, evo, evos, calleeA, lk, nif_eq, putE, paramsE, valS, val2, keepE, restrict, finA, resA, binA, binInt, ofConst, ofConst1, loadA, TK.isAgg, asVar, unA, builtinA, lenOpA, lenA, ileb_cast, ileb_eq, ieqb_dec, indexAddrA, inB_dec, evPairs, storeA, AV.cellsOf, pairsOf, xI_nil, binBool, gcE, evOpt, xI_block, xI_loopH, xI_condM, xI_exitM, xI_skip, xI_blk, exitA, ty2, ty3, ty4, ty33, eK28_0_0, eK28_1_2, eK28_1_1, eK28_1_0]
  | succ m ih =>
    intro k out b σ hk ho hr
    have hlt : ¬ (65536 : Int) ≤ (k : Int) := by omega
    have hlt2 : (k : Int) < 65536 := by omega
    have hw := wrapS (n := k) (by omega)
    obtain ⟨x', i', h1⟩ := i28 a c ha hc A hA len hlen hl b out.length k k σ A [] k rfl (by omega)
    simp only [List.length_nil, Int.natCast_zero, show ((0 : Nat) : Int) = 0 from rfl] at h1
    cases hf : fit a c A k with
    | true =>
      obtain ⟨σ1, hap, hr1, hn1, _⟩ := nints_append_row (x := k) ty33 ty2 hr (n := out.length) rfl (by omega)
      obtain ⟨σ', b', q', h2, h3, h4⟩ := ih (k + 1) (out ++ [k]) _ σ1 (by omega) (by simp; omega) hr1
      refine ⟨σ', b', q', ?_, by rw [h3]; simp [scan, hf], by simpa [scan, hf] using h4⟩
      rw [hf] at h1
      simp only [List.length_append, List.length_singleton] at h2
      rw [fi28] at h1 h2 ⊢
      rw [xl28_0]
      simp only [B28_0, b28, Try.f28, Option.getD, fstC, sndC, bodyC, thnC, elsC]
      simp [xI_seq, xI_region, xI_ret, regA, regOps, runOps, opStep, wantedA, opA, evo, evos, calleeA, lk, nif_eq, putE, paramsE, valS, val2, keepE, restrict, finA, resA, binA, binInt, ofConst, ofConst1, loadA, TK.isAgg, asVar, unA, builtinA, lenOpA, lenA, ileb_cast, ileb_eq, ieqb_dec, indexAddrA, inB_dec, evPairs, storeA, AV.cellsOf, pairsOf, xI_nil, binBool, gcE, evOpt, xI_block, xI_loopH, xI_condM, xI_exitM, xI_skip, xI_blk, exitA, ty2, ty3, ty4, ty33, eK28_0_0, eK28_1_2, eK28_1_1, eK28_1_0, hlt, hlt2, hw]
      refine h1.trans ?_
      simp only [R28_1_2, b28, Try.f28, Option.getD, fstC, sndC, bodyC, thnC, elsC]
      simp [xI_seq, xI_region, xI_ret, regA, regOps, runOps, opStep, wantedA, opA, evo, evos, calleeA, lk, nif_eq, putE, paramsE, valS, val2, keepE, restrict, finA, resA, binA, binInt, ofConst, ofConst1, loadA, TK.isAgg, asVar, unA, builtinA, lenOpA, lenA, ileb_cast, ileb_eq, ieqb_dec, indexAddrA, inB_dec, evPairs, storeA, AV.cellsOf, pairsOf, xI_nil, binBool, gcE, evOpt, xI_block, xI_loopH, xI_condM, xI_exitM, xI_skip, xI_blk, exitA, ty2, ty3, ty4, ty33, eK28_0_0, eK28_1_2, eK28_1_1, eK28_1_0, hlt, hlt2, hw, bs1, hap]
      simpa using h2
    | false =>
      obtain ⟨σ', b', q', h2, h3, h4⟩ := ih (k + 1) out b σ (by omega) (by omega) hr
      refine ⟨σ', b', q', ?_, by rw [h3]; simp [scan, hf], by simpa [scan, hf] using h4⟩
      rw [hf] at h1
      rw [fi28] at h1 h2 ⊢
      rw [xl28_0]
      simp only [B28_0, b28, Try.f28, Option.getD, fstC, sndC, bodyC, thnC, elsC]
      simp [xI_seq, xI_region, xI_ret, regA, regOps, runOps, opStep, wantedA, opA, evo, evos, calleeA, lk, nif_eq, putE, paramsE, valS, val2, keepE, restrict, finA, resA, binA, binInt, ofConst, ofConst1, loadA, TK.isAgg, asVar, unA, builtinA, lenOpA, lenA, ileb_cast, ileb_eq, ieqb_dec, indexAddrA, inB_dec, evPairs, storeA, AV.cellsOf, pairsOf, xI_nil, binBool, gcE, evOpt, xI_block, xI_loopH, xI_condM, xI_exitM, xI_skip, xI_blk, exitA, ty2, ty3, ty4, ty33, eK28_0_0, eK28_1_2, eK28_1_1, eK28_1_0, hlt, hlt2, hw]
      refine h1.trans ?_
      simp only [R28_1_2, b28, Try.f28, Option.getD, fstC, sndC, bodyC, thnC, elsC]
      simp [xI_seq, xI_region, xI_ret, regA, regOps, runOps, opStep, wantedA, opA, evo, evos, calleeA, lk, nif_eq, putE, paramsE, valS, val2, keepE, restrict, finA, resA, binA, binInt, ofConst, ofConst1, loadA, TK.isAgg, asVar, unA, builtinA, lenOpA, lenA, ileb_cast, ileb_eq, ieqb_dec, indexAddrA, inB_dec, evPairs, storeA, AV.cellsOf, pairsOf, xI_nil, binBool, gcE, evOpt, xI_block, xI_loopH, xI_condM, xI_exitM, xI_skip, xI_blk, exitA, ty2, ty3, ty4, ty33, eK28_0_0, eK28_1_2, eK28_1_1, eK28_1_0, hlt, hlt2, hw, bs1]
      simpa using h2

end Go.Proofs.Ytonnbgjbohbibaa
