/- Contracts and laws: jumps of machines. Nothing is claimed here; no condition. -/
import Derived.Test.YtonnbgjbohbibaaEh
namespace Go.Proofs.Ytonnbgjbohbibaa
open Go Go.Abs
set_option linter.unusedSimpArgs false
set_option linter.unusedVariables false
open Go.Wd
theorem times_16 {A B : List Nat} (h : ∀ r ∈ A, r < 65536) : ∀ r ∈ times A B, r < 65536 := by
  intro r hr
  obtain ⟨x, _, rfl⟩ := List.mem_map.1 hr
  exact comb_lt (w := 16) A h x
theorem app_16 {A : List Nat} (h : A.length ≤ 16) (s : Nat) : app A s < 65536 := Nat.lt_of_lt_of_le (app_lt A s) (Nat.pow_le_pow_right (by decide) h)
theorem power_length : ∀ (k : Nat) (R out : List Nat) (n : Nat), out.length = R.length → (power k R out n).length = R.length
  | 0, _, _, _, h => h
  | k + 1, R, out, n, h => by
    simp only [power]
    split
    · exact h
    · rw [power_length k _ _ _ (by split <;> simp [times_length, h]), times_length]
theorem power_16 : ∀ (k : Nat) (R out : List Nat) (n : Nat), (∀ r ∈ R, r < 65536) → (∀ r ∈ out, r < 65536) → ∀ r ∈ power k R out n, r < 65536
  | 0, _, _, _, _, h => h
  | k + 1, R, out, n, hR, h => by
    simp only [power]
    split
    · exact h
    · exact power_16 k _ _ _ (times_16 hR) (by split; exact times_16 h; exact h)
theorem units_lt : ∀ (k a w : Nat), a + k ≤ w → ∀ r ∈ units a k, r < 2 ^ w
  | 0, _, _, _, r, hr => by simp [units] at hr
  | k + 1, a, w, h, r, hr => by
    simp only [units, List.mem_cons] at hr
    rcases hr with rfl | hr
    · exact Nat.pow_lt_pow_right (by decide) (by omega)
    · exact units_lt k (a + 1) w (by omega) r hr
theorem units_16 {k : Nat} (h : k ≤ 16) : ∀ r ∈ units 0 k, r < 65536 := units_lt k 0 16 (by omega)
def jpOk (w : Int) (R : List Int) (o s n : Int) : Bool := vst w R o s && inR n 0 1000000000000000000
def jpV (w : Int) (R : List Int) (o s n : Int) : Int := if jpOk w R o s n = true then (jump 63 (nats R) s.toNat n.toNat : Nat) else 0
theorem jpV_no {w : Int} {R : List Int} {o s n : Int} (h : jpOk w R o s n = false) : jpV w R o s n = 0 := by simp [jpV, h]
theorem jpV_yes {A : List Nat} {k t n : Nat} (h : jpOk (A.length : Int) (nints A) k t n = true) : jpV (A.length : Int) (nints A) k t n = (jump 63 A t n : Nat) := by simp [jpV, h, nats_nints]
theorem jump_power {A : List Nat} {t : Nat} (h16 : A.length ≤ 16) (ht : t < pw A.length) (n : Nat) : app (power 63 A (units 0 A.length) n) t = jump 63 A t n := by
  rw [app_power 63 A _ t n (by omega) (by rw [units_length]; omega), app_units (by omega) ht]

theorem v59 (w : Int) (R : List Int) (o s n : Int) (hs : R.length < 1000000000000) : FnV TT 59 [.agg (lin w R o), .int .i64 s, .int .i64 n] (.tup [.int .i64 (jpV w R o s n), .bool (jpOk w R o s n)]) := by
  refine FnV.mk fn59 rfl md59 ?_ (fun _ => rfl) rfl
  obtain ⟨σ, hσ⟩ : ∃ σ, (⟨[], 0⟩ : St).push ⟨lin w R o, 3, false⟩ = σ := ⟨_, rfl⟩
  have hg : σ.get 0 = some ⟨lin w R o, 3, false⟩ := by subst hσ; rfl
  have hcp1 : cellsAt σ (.ptr 0 1) 1 = some [.lst R.length (ints R)] := by subst hσ; rfl
  have h := c96 w R o s hs σ 0 _ hg rfl
  have hi := c88 n 0 1000000000000000000 σ
  rw [fi59]
  cases h1 : vst w R o s with
  | false =>
    rw [h1] at h
    have hj : jpOk w R o s n = false := by simp [jpOk, h1]
    rw [jpV_no hj, hj]
    simp only [lin] at hσ ⊢
    simp [xI_seq, xI_region, xI_ret, regA, regOps, runOps, opStep, wantedA, opA, evo, evos, calleeA, lk, nif_eq, putE, paramsE, valS, val2, keepE, restrict, finA, resA, binA, binInt, ofConst, ofConst1, loadA, TK.isAgg, asVar, unA, builtinA, lenOpA, lenA, ileb_cast, ileb_eq, ieqb_dec, indexAddrA, inB_dec, evPairs, storeA, AV.cellsOf, pairsOf, xI_nil, binBool, gcE, evOpt, xI_block, xI_loopH, xI_condM, xI_exitM, xI_skip, xI_blk, exitA, ty2, ty4, ty33, ty41, fieldAddrA, allOne, AV.one, n_push, ty2, ty33, ty38, ty41, hσ, h]
  | true =>
    rw [h1] at h
    obtain ⟨A, k, t, rfl, rfl, rfl, rfl, h2, h3, h4, h5, h6, h7⟩ := vst_nat' h1
    cases h8 : inR n 0 1000000000000000000 with
    | false =>
      rw [h8] at hi
      have hj : jpOk (A.length : Int) (nints A) k t n = false := by simp [jpOk, h1, h8]
      rw [jpV_no hj, hj]
      simp only [lin] at hσ ⊢
      simp [xI_seq, xI_region, xI_ret, regA, regOps, runOps, opStep, wantedA, opA, evo, evos, calleeA, lk, nif_eq, putE, paramsE, valS, val2, keepE, restrict, finA, resA, binA, binInt, ofConst, ofConst1, loadA, TK.isAgg, asVar, unA, builtinA, lenOpA, lenA, ileb_cast, ileb_eq, ieqb_dec, indexAddrA, inB_dec, evPairs, storeA, AV.cellsOf, pairsOf, xI_nil, binBool, gcE, evOpt, xI_block, xI_loopH, xI_condM, xI_exitM, xI_skip, xI_blk, exitA, ty2, ty4, ty33, ty41, fieldAddrA, allOne, AV.one, n_push, ty2, ty33, ty38, ty41, hσ, h, hi]
    | true =>
      rw [h8] at hi
      have hn := inR_iff.1 h8
      obtain ⟨m, rfl⟩ : ∃ m : Nat, n = m := ⟨n.toNat, by omega⟩
      have hj : jpOk (A.length : Int) (nints A) k t m = true := by simp [jpOk, h1, h8]
      rw [jpV_yes hj, hj, ← jump_power h3 h7]
      obtain ⟨b1, σ1, e1, r1, o1, _⟩ := (s109 A (fun r hr => pow_62 (h4 r hr)) (by omega) m (by omega)).row (σ := σ) (args := [.lst A.length (ints (nints A)), .int .i64 m]) rfl
      rw [nints_length, power_length 63 A _ m (by rw [units_length])] at e1
      have hpl : (power 63 A (units 0 A.length) m).length = A.length := power_length 63 A _ m (by rw [units_length])
      have e2 := v108 (power 63 A (units 0 A.length) m) (power_16 63 A _ m h4 (units_16 h3)) (by omega) t (pow_62 h6) σ1 [.sl b1 0 A.length A.length, .int .i64 t] (mapO_cons (by rw [hpl]; exact r1.frz (by rw [nints_length, hpl]) (Nat.le_refl _)) rfl)
      simp only [nints_length] at hcp1
      simp only [lin, nints_length] at hσ ⊢
      simp [xI_seq, xI_region, xI_ret, regA, regOps, runOps, opStep, wantedA, opA, evo, evos, calleeA, lk, nif_eq, putE, paramsE, valS, val2, keepE, restrict, finA, resA, binA, binInt, ofConst, ofConst1, loadA, TK.isAgg, asVar, unA, builtinA, lenOpA, lenA, ileb_cast, ileb_eq, ieqb_dec, indexAddrA, inB_dec, evPairs, storeA, AV.cellsOf, pairsOf, xI_nil, binBool, gcE, evOpt, xI_block, xI_loopH, xI_condM, xI_exitM, xI_skip, xI_blk, exitA, ty2, ty4, ty33, ty41, fieldAddrA, allOne, AV.one, n_push, ty2, ty33, ty38, ty41, hσ, h, hi, hcp1, e1, e2]

noncomputable def b60 : Code := Try.f60.body.getD .skip
noncomputable def B60_0 : Code := (bodyC (bodyC (fstC (sndC (sndC (sndC b60))))))
noncomputable def K60_0 : List It := .lp B60_0 :: .blk 0 :: .code (sndC (sndC (sndC (sndC b60)))) :: []
theorem xl60_0 {fi : FI} {env : Env} {σ : St} : exI TT fi K60_0 env σ = exI TT fi (.code B60_0 :: K60_0) env σ := by unfold K60_0; exact xI_lp
noncomputable def R60_0_0 : List It := .code (sndC (sndC (sndC (sndC b60)))) :: []
theorem eK60_0_0 : exitA 0 K60_0 = some R60_0_0 := rfl
theorem l60 : ∀ (k : Nat) (R : List Nat) (n t : Nat) (σ : St) (u : AV), (∀ r ∈ R, r < 65536) → R.length ≤ 16 → t < 65536 → n < 2 ^ k → k ≤ 63 → IsL σ u (nints R) →
    ∃ σ', exI TT (FI.of Try.f60 (TT.an 60)) K60_0 [(1, .int .i64 t), (2, .int .i64 n), (8, u)] σ = some (.tup [.int .i64 (jump k R t n : Nat), .bool true], σ') := by
  intro k
  induction k with
  | zero =>
    intro R n t σ u hR hl ht hn hk hu
    obtain rfl : n = 0 := by simpa using hn
    refine ⟨σ, ?_⟩
    rw [fi60]
    rw [xl60_0]
    simp only [B60_0, b60, Try.f60, Option.getD, fstC, sndC, bodyC, thnC, elsC]
    simp [xI_seq, xI_region, xI_ret, regA, regOps, runOps, opStep, wantedA, opA, evo, evos, calleeA, lk, nif_eq, putE, paramsE, valS, val2, keepE, restrict, finA, resA, binA, binInt, ofConst, ofConst1, loadA, TK.isAgg, asVar, unA, builtinA, lenOpA, lenA, ileb_cast, ileb_eq, ieqb_dec, indexAddrA, inB_dec, evPairs, storeA, AV.cellsOf, pairsOf, xI_nil, binBool, gcE, evOpt, xI_block, xI_loopH, xI_condM, xI_exitM, xI_skip, xI_blk, exitA, ty2, ty4, ty33, ty41, eK60_0_0]
    simp only [R60_0_0, b60, Try.f60, Option.getD, fstC, sndC, bodyC, thnC, elsC]
    simp [xI_seq, xI_region, xI_ret, regA, regOps, runOps, opStep, wantedA, opA, evo, evos, calleeA, lk, nif_eq, putE, paramsE, valS, val2, keepE, restrict, finA, resA, binA, binInt, ofConst, ofConst1, loadA, TK.isAgg, asVar, unA, builtinA, lenOpA, lenA, ileb_cast, ileb_eq, ieqb_dec, indexAddrA, inB_dec, evPairs, storeA, AV.cellsOf, pairsOf, xI_nil, binBool, gcE, evOpt, xI_block, xI_loopH, xI_condM, xI_exitM, xI_skip, xI_blk, exitA, ty2, ty4, ty33, ty41, eK60_0_0]
    rfl
  | succ k ih =>
    intro R n t σ u hR hl ht hn hk hu
    by_cases h0 : n = 0
    · subst h0
      refine ⟨σ, ?_⟩
      rw [show jump (k + 1) R t 0 = t by simp [jump]]
      rw [fi60]
      rw [xl60_0]
      simp only [B60_0, b60, Try.f60, Option.getD, fstC, sndC, bodyC, thnC, elsC]
      simp [xI_seq, xI_region, xI_ret, regA, regOps, runOps, opStep, wantedA, opA, evo, evos, calleeA, lk, nif_eq, putE, paramsE, valS, val2, keepE, restrict, finA, resA, binA, binInt, ofConst, ofConst1, loadA, TK.isAgg, asVar, unA, builtinA, lenOpA, lenA, ileb_cast, ileb_eq, ieqb_dec, indexAddrA, inB_dec, evPairs, storeA, AV.cellsOf, pairsOf, xI_nil, binBool, gcE, evOpt, xI_block, xI_loopH, xI_condM, xI_exitM, xI_skip, xI_blk, exitA, ty2, ty4, ty33, ty41, eK60_0_0]
      simp only [R60_0_0, b60, Try.f60, Option.getD, fstC, sndC, bodyC, thnC, elsC]
      simp [xI_seq, xI_region, xI_ret, regA, regOps, runOps, opStep, wantedA, opA, evo, evos, calleeA, lk, nif_eq, putE, paramsE, valS, val2, keepE, restrict, finA, resA, binA, binInt, ofConst, ofConst1, loadA, TK.isAgg, asVar, unA, builtinA, lenOpA, lenA, ileb_cast, ileb_eq, ieqb_dec, indexAddrA, inB_dec, evPairs, storeA, AV.cellsOf, pairsOf, xI_nil, binBool, gcE, evOpt, xI_block, xI_loopH, xI_condM, xI_exitM, xI_skip, xI_blk, exitA, ty2, ty4, ty33, ty41, eK60_0_0]
    · have h62 : 2 ^ (k + 1) ≤ 2 ^ 63 := Nat.pow_le_pow_right (by decide) hk
      have hp : 0 < n := by omega
      have hdv : divN n 2 < 2 ^ k := by show n / 2 < 2 ^ k; omega
      have hdw : wrapA .i64 ((n : Int) / 2) = ((divN n 2 : Nat) : Int) := n_wrap (a := divN n 2) (by omega)
      have hR62 : ∀ r ∈ R, r < 2 ^ 62 := fun r hr => pow_62 (hR r hr)
      obtain ⟨σ2, b2, c2, r2, o2, _⟩ := r95 R R hR62 (by omega) hR62 (by omega) σ _ _ hu hu
      have hu2 : IsL σ2 (.sl b2 0 R.length R.length) (nints (times R R)) := IsL.of_row r2 (by rw [nints_length, times_length])
      by_cases hm : modN n 2 = 1
      · have hm' : ((modN n 2 : Nat) : Int) = 1 := by omega
        have fu := hu.frz (d := 4)
        rw [nints_length] at fu
        have e1 : callI TT 99 [u, .int .i64 t] σ = some (.int .i64 (app R t : Nat), σ) := v99 R hR hl t (pow_62 ht) σ _ (mapO_cons fu rfl)
        obtain ⟨σ', h1⟩ := ih (times R R) (divN n 2) (app R t) σ2 (.sl b2 0 R.length R.length) (times_16 hR) (by rw [times_length]; exact hl) (app_16 hl t) hdv (by omega) hu2
        refine ⟨σ', ?_⟩
        rw [show jump (k + 1) R t n = jump k (times R R) (app R t) (divN n 2) by simp only [jump]; rw [if_neg h0, if_pos (show n % 2 = 1 from hm)]; rfl]
        rw [fi60] at h1 ⊢
        rw [xl60_0]
        simp only [B60_0, b60, Try.f60, Option.getD, fstC, sndC, bodyC, thnC, elsC]
        simp [xI_seq, xI_region, xI_ret, regA, regOps, runOps, opStep, wantedA, opA, evo, evos, calleeA, lk, nif_eq, putE, paramsE, valS, val2, keepE, restrict, finA, resA, binA, binInt, ofConst, ofConst1, loadA, TK.isAgg, asVar, unA, builtinA, lenOpA, lenA, ileb_cast, ileb_eq, ieqb_dec, indexAddrA, inB_dec, evPairs, storeA, AV.cellsOf, pairsOf, xI_nil, binBool, gcE, evOpt, xI_block, xI_loopH, xI_condM, xI_exitM, xI_skip, xI_blk, exitA, ty2, ty4, ty33, ty41, eK60_0_0, hp, hm', hm, e1, c2, modI, hdw, h0]
        simpa using h1
      · have hm' : ¬ ((modN n 2 : Nat) : Int) = 1 := by omega
        obtain ⟨σ', h1⟩ := ih (times R R) (divN n 2) t σ2 (.sl b2 0 R.length R.length) (times_16 hR) (by rw [times_length]; exact hl) ht hdv (by omega) hu2
        refine ⟨σ', ?_⟩
        rw [show jump (k + 1) R t n = jump k (times R R) t (divN n 2) by simp only [jump]; rw [if_neg h0, if_neg (show ¬ n % 2 = 1 from hm)]; rfl]
        rw [fi60] at h1 ⊢
        rw [xl60_0]
        simp only [B60_0, b60, Try.f60, Option.getD, fstC, sndC, bodyC, thnC, elsC]
        simp [xI_seq, xI_region, xI_ret, regA, regOps, runOps, opStep, wantedA, opA, evo, evos, calleeA, lk, nif_eq, putE, paramsE, valS, val2, keepE, restrict, finA, resA, binA, binInt, ofConst, ofConst1, loadA, TK.isAgg, asVar, unA, builtinA, lenOpA, lenA, ileb_cast, ileb_eq, ieqb_dec, indexAddrA, inB_dec, evPairs, storeA, AV.cellsOf, pairsOf, xI_nil, binBool, gcE, evOpt, xI_block, xI_loopH, xI_condM, xI_exitM, xI_skip, xI_blk, exitA, ty2, ty4, ty33, ty41, eK60_0_0, hp, hm', hm, c2, modI, hdw, h0]
        simpa using h1
theorem v60 (w : Int) (R : List Int) (o s n : Int) (hs : R.length < 3000000) : FnV TT 60 [.agg (lin w R o), .int .i64 s, .int .i64 n] (.tup [.int .i64 (jpV w R o s n), .bool (jpOk w R o s n)]) := by
  refine FnV.mk fn60 rfl md60 ?_ (fun _ => rfl) rfl
  obtain ⟨σ, hσ⟩ : ∃ σ, (⟨[], 0⟩ : St).push ⟨lin w R o, 3, false⟩ = σ := ⟨_, rfl⟩
  have hcp3 : cellsAt σ (.ptr 0 0) 3 = some [.int .i64 w, .lst R.length (ints R), .int .i64 o] := by subst hσ; rfl
  have hcp1 : cellsAt σ (.ptr 0 1) 1 = some [.lst R.length (ints R)] := by subst hσ; rfl
  have h : callI TT 98 [.agg [.int .i64 w, .lst R.length (ints R), .int .i64 o], .int .i64 s] σ = some (.bool (vst w R o s), σ) := v98 w R o s hs σ _ rfl
  have hi := c80 n 0 1000000000000000000 σ
  cases h1 : vst w R o s with
  | false =>
    rw [h1] at h
    have hj : jpOk w R o s n = false := by simp [jpOk, h1]
    rw [jpV_no hj, hj, fi60]
    simp only [lin] at hσ ⊢
    simp [xI_seq, xI_region, xI_ret, regA, regOps, runOps, opStep, wantedA, opA, evo, evos, calleeA, lk, nif_eq, putE, paramsE, valS, val2, keepE, restrict, finA, resA, binA, binInt, ofConst, ofConst1, loadA, TK.isAgg, asVar, unA, builtinA, lenOpA, lenA, ileb_cast, ileb_eq, ieqb_dec, indexAddrA, inB_dec, evPairs, storeA, AV.cellsOf, pairsOf, xI_nil, binBool, gcE, evOpt, xI_block, xI_loopH, xI_condM, xI_exitM, xI_skip, xI_blk, exitA, ty2, ty4, ty33, ty41, eK60_0_0, fieldAddrA, allOne, AV.one, n_push, ty2, ty33, ty38, ty41, hσ, hcp3, h]
  | true =>
    rw [h1] at h
    obtain ⟨A, k, t, rfl, rfl, rfl, rfl, h2, h3, h4, h5, h6, h7⟩ := vst_nat' h1
    cases h8 : inR n 0 1000000000000000000 with
    | false =>
      rw [h8] at hi
      have hj : jpOk (A.length : Int) (nints A) k t n = false := by simp [jpOk, h1, h8]
      rw [jpV_no hj, hj, fi60]
      simp only [lin] at hσ ⊢
      simp [xI_seq, xI_region, xI_ret, regA, regOps, runOps, opStep, wantedA, opA, evo, evos, calleeA, lk, nif_eq, putE, paramsE, valS, val2, keepE, restrict, finA, resA, binA, binInt, ofConst, ofConst1, loadA, TK.isAgg, asVar, unA, builtinA, lenOpA, lenA, ileb_cast, ileb_eq, ieqb_dec, indexAddrA, inB_dec, evPairs, storeA, AV.cellsOf, pairsOf, xI_nil, binBool, gcE, evOpt, xI_block, xI_loopH, xI_condM, xI_exitM, xI_skip, xI_blk, exitA, ty2, ty4, ty33, ty41, eK60_0_0, fieldAddrA, allOne, AV.one, n_push, ty2, ty33, ty38, ty41, hσ, hcp3, h, hi]
    | true =>
      rw [h8] at hi
      have hn := inR_iff.1 h8
      obtain ⟨m, rfl⟩ : ∃ m : Nat, n = m := ⟨n.toNat, by omega⟩
      have hj : jpOk (A.length : Int) (nints A) k t m = true := by simp [jpOk, h1, h8]
      rw [jpV_yes hj, hj]
      obtain ⟨σ', hl⟩ := l60 63 A m t σ (.lst A.length (ints (nints A))) h4 h3 h6 (by omega) (by decide) (.inl (by rw [nints_length]))
      refine ⟨σ', ?_⟩
      rw [← hl, fi60]
      simp only [nints_length] at hcp1 hcp3 h
      simp only [lin, nints_length] at hσ ⊢
      simp [xI_seq, xI_region, xI_ret, regA, regOps, runOps, opStep, wantedA, opA, evo, evos, calleeA, lk, nif_eq, putE, paramsE, valS, val2, keepE, restrict, finA, resA, binA, binInt, ofConst, ofConst1, loadA, TK.isAgg, asVar, unA, builtinA, lenOpA, lenA, ileb_cast, ileb_eq, ieqb_dec, indexAddrA, inB_dec, evPairs, storeA, AV.cellsOf, pairsOf, xI_nil, binBool, gcE, evOpt, xI_block, xI_loopH, xI_condM, xI_exitM, xI_skip, xI_blk, exitA, ty2, ty4, ty33, ty41, eK60_0_0, fieldAddrA, allOne, AV.one, n_push, ty2, ty33, ty38, ty41, hσ, hcp3, hcp1, h, hi]
      rfl

set_option maxHeartbeats 1000000 in
theorem w15 (w : Int) (l : List Int) (o : Int) (s : Int) (n : Int) (hn0 : l.length ≤ 9223372036854775807) : FnV TT 15 [.agg (lin w l o), .int .i64 s, .int .i64 n] (.bool true) := by
  refine FnV.mk fn15 rfl md15 ?_ (fun _ => rfl) rfl
  rw [fi15]
  have hsz : ∀ σ : St, callI TT 30 [.agg (lin w l o), .int .i64 1048576] σ = some (.int .i64 (if l.length ≤ 1048576 then (1048576 : Int) - l.length else -1), σ) := fun σ => v30 w l o 1048576 hn0 (by decide) σ _ rfl
  by_cases hbig : l.length ≤ 1048576
  · have hl : l.length < 3000000 := by omega
    have hn : l.length < 1000000000000 := by omega
    have hto : ∀ σ : St, callI TT 32 [.agg (lin w l o)] σ = some (.agg (lin w l o), σ) := fun σ => tol32 w l o hn σ _ rfl rfl
    have heq : ∀ σ : St, callI TT 34 [.agg (lin w l o), .agg (lin w l o)] σ = some (.bool true, σ) := fun σ => v34 w l o hn σ _ rfl
    have hS : ∀ σ : St, callI TT 59 [.agg (lin w l o), .int .i64 s, .int .i64 n] σ = some (.tup [.int .i64 (jpV w l o s n), .bool (jpOk w l o s n)], σ) := fun σ => v59 w l o s n hn σ _ rfl
    have hI : ∀ σ : St, callI TT 60 [.agg (lin w l o), .int .i64 s, .int .i64 n] σ = some (.tup [.int .i64 (jpV w l o s n), .bool (jpOk w l o s n)], σ) := fun σ => v60 w l o s n hl σ _ rfl
    have h1 : ¬ ((1048576 : Int) - l.length < 0) := by omega
    have h2 : ¬ ((1048576 : Int) < l.length) := by omega
    simp only [if_pos hbig] at hsz
    simp only [lin] at hsz hto heq hS hI ⊢
    simp [xI_seq, xI_region, xI_ret, regA, regOps, runOps, opStep, wantedA, opA, evo, evos, calleeA, lk, nif_eq, putE, paramsE, valS, val2, keepE, restrict, finA, resA, binA, binInt, ofConst, ofConst1, loadA, TK.isAgg, asVar, unA, builtinA, lenOpA, lenA, ileb_cast, ileb_eq, ieqb_dec, indexAddrA, inB_dec, evPairs, storeA, AV.cellsOf, pairsOf, xI_nil, binBool, gcE, evOpt, xI_block, xI_loopH, xI_condM, xI_exitM, xI_skip, xI_blk, exitA, ty2, ty3, ty4, ty38, ty41, cellsAt, getCells, takeN, dropN, fieldAddrA, allOne, AV.one, n_push, storeCellsA, putN, overN, ty2, ty33, ty38, ty41, St.push, St.get, St.set, hget, hset, runTr, pairsOk, pairOk, lstAt, lastOf, sameVal, AV.eqv, eqvs, eqvs_ints, regOps, blt_dec, cond_true, cond_false, hsz, hto, heq, hS, hI, h1, h2]
  · simp only [if_neg hbig] at hsz
    simp only [lin] at hsz ⊢
    simp [xI_seq, xI_region, xI_ret, regA, regOps, runOps, opStep, wantedA, opA, evo, evos, calleeA, lk, nif_eq, putE, paramsE, valS, val2, keepE, restrict, finA, resA, binA, binInt, ofConst, ofConst1, loadA, TK.isAgg, asVar, unA, builtinA, lenOpA, lenA, ileb_cast, ileb_eq, ieqb_dec, indexAddrA, inB_dec, evPairs, storeA, AV.cellsOf, pairsOf, xI_nil, binBool, gcE, evOpt, xI_block, xI_loopH, xI_condM, xI_exitM, xI_skip, xI_blk, exitA, ty2, ty3, ty4, ty38, ty41, cellsAt, getCells, takeN, dropN, fieldAddrA, allOne, AV.one, n_push, storeCellsA, putN, overN, ty2, ty33, ty38, ty41, St.push, St.get, St.set, hget, hset, runTr, pairsOk, pairOk, lstAt, lastOf, sameVal, AV.eqv, eqvs, eqvs_ints, regOps, blt_dec, cond_true, cond_false, hsz]

end Go.Proofs.Ytonnbgjbohbibaa
