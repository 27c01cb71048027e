/- Numbers of ways to choose: two functions. Nothing is claimed here; no condition. -/
import Derived.Test.YtaniaeefijgaiaaCn
namespace Go.Proofs.Ytaniaeefijgaiaa
open Go Go.Abs
set_option linter.unusedSimpArgs false
set_option linter.unusedVariables false
noncomputable def b84 : Code := Try.f84.body.getD .skip
noncomputable def B84_0 : Code := (bodyC (bodyC (sndC (fstC (sndC (sndC (sndC b84)))))))
noncomputable def K84_0 : List It := .lp B84_0 :: .blk 0 :: .code (sndC (sndC (sndC (sndC b84)))) :: []
theorem xl84_0 {fi : FI} {env : Env} {σ : St} : exI TT fi K84_0 env σ = exI TT fi (.code B84_0 :: K84_0) env σ := by unfold K84_0; exact xI_lp
noncomputable def R84_0_0 : List It := .code (sndC (sndC (sndC (sndC b84)))) :: []
theorem eK84_0_0 : exitA 0 K84_0 = some R84_0_0 := rfl
theorem l84 (n k M : Nat) (hn : n ≤ 60) (hk : k ≤ n) (hM : M = min k (n - k)) : ∀ (m j : Nat) (σ : St), j + m = M →
    exI TT (FI.of Try.f84 (TT.an 84)) K84_0 [(0, .int .i64 n), (1, .int .i64 k), (5, .int .i64 (ch n j)), (6, .int .i64 (j + 1 : Nat))] σ = some (.int .i64 (ch n M), σ) := by
  have hw0 : wrapA .i64 ((n : Int) - k) = (n : Int) - k := wrapA_id (by omega) (by omega)
  have hmin : (if (n : Int) - k < k then (n : Int) - k else (k : Int)) = M := by split <;> omega
  intro m
  induction m with
  | zero =>
    intro j σ hj
    obtain rfl : j = M := by omega
    have hlt : ¬ j + 1 ≤ j := by omega
    have hlt2 : ¬ (j : Int) + 1 ≤ j := by omega
    generalize ch n j = o
    rw [fi84]
    rw [xl84_0]
    simp only [B84_0, b84, Try.f84, Option.getD, fstC, sndC, bodyC, thnC, elsC]
    simp [xI_seq, xI_region, xI_ret, regA, regOps, runOps, opStep, wantedA, opA, evo, evos, calleeA, lk, nif_eq, putE, paramsE, valS, val2, keepE, restrict, finA, resA, binA, binInt, ofConst, ofConst1, loadA, TK.isAgg, asVar, unA, builtinA, lenOpA, lenA, ileb_cast, ileb_eq, ieqb_dec, indexAddrA, inB_dec, evPairs, storeA, AV.cellsOf, pairsOf, xI_nil, binBool, gcE, evOpt, xI_block, xI_loopH, xI_condM, xI_exitM, xI_skip, xI_blk, exitA, ty2, ty4, ty71, eK84_0_0, minmaxA, mmStep, hw0, hmin, hlt, hlt2]
    simp only [R84_0_0, b84, Try.f84, Option.getD, fstC, sndC, bodyC, thnC, elsC]
    simp [xI_seq, xI_region, xI_ret, regA, regOps, runOps, opStep, wantedA, opA, evo, evos, calleeA, lk, nif_eq, putE, paramsE, valS, val2, keepE, restrict, finA, resA, binA, binInt, ofConst, ofConst1, loadA, TK.isAgg, asVar, unA, builtinA, lenOpA, lenA, ileb_cast, ileb_eq, ieqb_dec, indexAddrA, inB_dec, evPairs, storeA, AV.cellsOf, pairsOf, xI_nil, binBool, gcE, evOpt, xI_block, xI_loopH, xI_condM, xI_exitM, xI_skip, xI_blk, exitA, ty2, ty4, ty71, eK84_0_0]
  | succ m ih =>
    intro j σ hj
    have ih1 := ih (j + 1) σ (by omega)
    have hlt : (j : Int) + 1 ≤ M := by omega
    have hst := ch_step n j
    have ho := ch_le (n := n) (k := j) hn
    have ho2 := ch_le (n := n) (k := j + 1) hn
    generalize ch n j = o at *
    generalize ch n (j + 1) = o2 at *
    have u1 : wrapA .u64 (o : Int) = o := wrapU (by omega)
    have u2 : wrapA .i64 ((n : Int) - ((j : Int) + 1)) = (n : Int) - ((j : Int) + 1) := wrapA_id (by omega) (by omega)
    have u3 : wrapA .i64 ((n : Int) - ((j : Int) + 1) + 1) = ((n - j : Nat) : Int) := by rw [wrapA_id (by omega) (by omega)]; omega
    have u4 : wrapA .u64 ((n - j : Nat) : Int) = (n - j : Nat) := wrapU (by omega)
    have u5 : wrapA .u64 ((j : Int) + 1) = ((j + 1 : Nat) : Int) := wrapU (n := j + 1) (by omega)
    have u6 : wrapA .i64 (o2 : Int) = o2 := wrapA_id (by omega) (by omega)
    have u7 : wrapA .i64 ((j : Int) + 1 + 1) = (j : Int) + 1 + 1 := wrapA_id (by omega) (by omega)
    have hlo : o * (n - j) = (j + 1) * o2 := by rw [hst]; exact Nat.mul_comm _ _
    have hlt64 : o * (n - j) ≤ 144115188075855872 * 64 := Nat.mul_le_mul (by omega) (by omega)
    have c1 := c103 o (n - j) (by omega) (by omega) σ
    obtain ⟨rr, c2⟩ := c104 (o * (n - j)) (j + 1) (by omega) (by omega) (by omega) σ
    rw [hlo, Nat.mul_div_cancel_left _ (by omega : 0 < j + 1)] at c2
    rw [hlo] at c1
    generalize hnj : n - j = d at *
    generalize hlo2 : (j + 1) * o2 = lo at *
    generalize hj1 : j + 1 = i at *
    have hj1' : (j : Int) + 1 = i := by omega
    rw [hj1'] at hlt u2 u3 u5 u7
    have hj2 : ((i + 1 : Nat) : Int) = (i : Int) + 1 := by omega
    rw [hj2] at ih1
    rw [fi84] at ih1 ⊢
    rw [xl84_0]
    simp only [B84_0, b84, Try.f84, Option.getD, fstC, sndC, bodyC, thnC, elsC]
    simp [xI_seq, xI_region, xI_ret, regA, regOps, runOps, opStep, wantedA, opA, evo, evos, calleeA, lk, nif_eq, putE, paramsE, valS, val2, keepE, restrict, finA, resA, binA, binInt, ofConst, ofConst1, loadA, TK.isAgg, asVar, unA, builtinA, lenOpA, lenA, ileb_cast, ileb_eq, ieqb_dec, indexAddrA, inB_dec, evPairs, storeA, AV.cellsOf, pairsOf, xI_nil, binBool, gcE, evOpt, xI_block, xI_loopH, xI_condM, xI_exitM, xI_skip, xI_blk, exitA, ty2, ty4, ty71, eK84_0_0, minmaxA, mmStep, hw0, hmin, hlt, convA, u1, u2, u3, u4, u5, u6, u7, c1, c2]
    exact ih1
theorem c84 (n k : Nat) (hn : n ≤ 60) (hk0 : k < 1000000) (σ : St) : callI TT 84 [.int .i64 n, .int .i64 k] σ = some (.int .i64 (ch n k), σ) := by
  refine (FnV.mk (args' := [.int .i64 n, .int .i64 k]) fn84 rfl md84 ⟨⟨[], 0⟩, ?_⟩ (fun _ => rfl) rfl) σ _ rfl
  by_cases hk : k ≤ n
  · have hin : inR (k : Int) 0 n = true := inR_iff.2 (by omega)
    have h1 := l84 n k _ hn hk rfl (min k (n - k)) 0 ⟨[], 0⟩ (by omega)
    have he : ch n (min k (n - k)) = ch n k := by
      rcases Nat.le_total k (n - k) with h | h
      · rw [Nat.min_eq_left h]
      · rw [Nat.min_eq_right h, ← ch_symm n k hk]
    rw [he, ch_0] at h1
    rw [fi84] at h1 ⊢
    simp [xI_seq, xI_region, xI_ret, regA, regOps, runOps, opStep, wantedA, opA, evo, evos, calleeA, lk, nif_eq, putE, paramsE, valS, val2, keepE, restrict, finA, resA, binA, binInt, ofConst, ofConst1, loadA, TK.isAgg, asVar, unA, builtinA, lenOpA, lenA, ileb_cast, ileb_eq, ieqb_dec, indexAddrA, inB_dec, evPairs, storeA, AV.cellsOf, pairsOf, xI_nil, binBool, gcE, evOpt, xI_block, xI_loopH, xI_condM, xI_exitM, xI_skip, xI_blk, exitA, ty2, ty4, ty71, eK84_0_0, c69, hin]
    exact h1
  · have hin : inR (k : Int) 0 n = false := inR_not (by omega)
    rw [ch_gt n k (by omega), fi84]
    simp [xI_seq, xI_region, xI_ret, regA, regOps, runOps, opStep, wantedA, opA, evo, evos, calleeA, lk, nif_eq, putE, paramsE, valS, val2, keepE, restrict, finA, resA, binA, binInt, ofConst, ofConst1, loadA, TK.isAgg, asVar, unA, builtinA, lenOpA, lenA, ileb_cast, ileb_eq, ieqb_dec, indexAddrA, inB_dec, evPairs, storeA, AV.cellsOf, pairsOf, xI_nil, binBool, gcE, evOpt, xI_block, xI_loopH, xI_condM, xI_exitM, xI_skip, xI_blk, exitA, ty2, ty4, ty71, eK84_0_0, c69, hin]

noncomputable def b83 : Code := Try.f83.body.getD .skip
noncomputable def B83_0 : Code := (bodyC (bodyC (sndC (fstC (sndC (sndC b83))))))
noncomputable def K83_0 : List It := .lp B83_0 :: .blk 0 :: .code (sndC (sndC (sndC b83))) :: []
theorem xl83_0 {fi : FI} {env : Env} {σ : St} : exI TT fi K83_0 env σ = exI TT fi (.code B83_0 :: K83_0) env σ := by unfold K83_0; exact xI_lp
noncomputable def R83_0_0 : List It := .code (sndC (sndC (sndC b83))) :: []
theorem eK83_0_0 : exitA 0 K83_0 = some R83_0_0 := rfl
noncomputable def B83_1 : Code := (bodyC (bodyC (sndC (fstC (sndC (bodyC (fstC (sndC (bodyC (bodyC (sndC (fstC (sndC (sndC b83))))))))))))))
noncomputable def K83_1 : List It := .lp B83_1 :: .blk 2 :: .code (sndC (sndC (bodyC (fstC (sndC (bodyC (bodyC (sndC (fstC (sndC (sndC b83))))))))))) :: .blk 1 :: .code (sndC (sndC (bodyC (bodyC (sndC (fstC (sndC (sndC b83)))))))) :: K83_0
theorem xl83_1 {fi : FI} {env : Env} {σ : St} : exI TT fi K83_1 env σ = exI TT fi (.code B83_1 :: K83_1) env σ := by unfold K83_1; exact xI_lp
noncomputable def R83_1_2 : List It := .code (sndC (sndC (bodyC (fstC (sndC (bodyC (bodyC (sndC (fstC (sndC (sndC b83))))))))))) :: .blk 1 :: .code (sndC (sndC (bodyC (bodyC (sndC (fstC (sndC (sndC b83)))))))) :: K83_0
theorem eK83_1_2 : exitA 2 K83_1 = some R83_1_2 := rfl
noncomputable def R83_1_1 : List It := .code (sndC (sndC (bodyC (bodyC (sndC (fstC (sndC (sndC b83)))))))) :: K83_0
theorem eK83_1_1 : exitA 1 K83_1 = some R83_1_1 := rfl
theorem eK83_1_0 : exitA 0 K83_1 = some R83_0_0 := rfl
def natI (l : List Nat) : List Int := l.map fun (x : Nat) => (x : Int)
theorem natI_length (l : List Nat) : (natI l).length = l.length := by simp [natI]
theorem natI_get {l : List Nat} {i x : Nat} (h : l[i]? = some x) : (natI l)[i]? = some (x : Int) := by simp [natI, h]
theorem l83_1 (n k i : Nat) (hi : i < 100) (r : List Nat) (hrl : r.length = i + 1) (hv : ∀ x ∈ r, x ≤ 118264581564861424) : ∀ (m j : Nat) (σ : St) (b b2 : Nat), j + m = i + 1 → 1 ≤ j → b ≠ b2 → Row σ b (natI r) → Row σ b2 (natI (1 :: (adj r).take (j - 1))) →
    ∃ σ' b2', exI TT (FI.of Try.f83 (TT.an 83)) K83_1 [(0, .int .i64 n), (1, .int .i64 k), (5, .sl b 0 (i + 1) (i + 1)), (6, .int .i64 i), (7, .sl b2 0 j j), (8, .int .i64 j)] σ = exI TT (FI.of Try.f83 (TT.an 83)) R83_1_2 [(0, .int .i64 n), (1, .int .i64 k), (5, .sl b 0 (i + 1) (i + 1)), (6, .int .i64 i), (7, .sl b2' 0 (i + 1) (i + 1)), (8, .int .i64 (i + 1 : Nat)), (19, .bool false)] σ' ∧ b ≠ b2' ∧ Row σ' b (natI r) ∧ Row σ' b2' (natI (1 :: adj r)) := by
  intro m
  induction m with
  | zero =>
    intro j σ b b2 hj hj1 hbb h1 h2
    obtain rfl : j = i + 1 := by omega
    refine ⟨σ, b2, ?_, hbb, h1, ?_⟩
    · have e : ((i + 1 : Nat) : Int) = (i : Int) + 1 := by omega
      rw [e]
      rw [fi83]
      rw [xl83_1]
      simp only [B83_1, b83, Try.f83, Option.getD, fstC, sndC, bodyC, thnC, elsC]
      simp [xI_seq, xI_region, xI_ret, regA, regOps, runOps, opStep, wantedA, opA, evo, evos, calleeA, lk, nif_eq, putE, paramsE, valS, val2, keepE, restrict, finA, resA, binA, binInt, ofConst, ofConst1, loadA, TK.isAgg, asVar, unA, builtinA, lenOpA, lenA, ileb_cast, ileb_eq, ieqb_dec, indexAddrA, inB_dec, evPairs, storeA, AV.cellsOf, pairsOf, xI_nil, binBool, gcE, evOpt, xI_block, xI_loopH, xI_condM, xI_exitM, xI_skip, xI_blk, exitA, ty2, ty3, ty22, eK83_0_0, eK83_1_2, eK83_1_1, eK83_1_0]
    · rw [List.take_of_length_le (by rw [adj_length, hrl]; omega)] at h2; exact h2
  | succ m ih =>
    intro j σ b b2 hj hj1 hbb h1 h2
    obtain ⟨q, rfl⟩ : ∃ q, j = q + 1 := ⟨j - 1, by omega⟩
    obtain ⟨x, hx⟩ : ∃ x, r[q]? = some x := ⟨_, List.getElem?_eq_getElem (by omega)⟩
    obtain ⟨y, hy⟩ : ∃ y, r[q + 1]? = some y := ⟨_, List.getElem?_eq_getElem (by omega)⟩
    have hxv := hv x (List.mem_of_getElem? hx)
    have hyv := hv y (List.mem_of_getElem? hy)
    have hl2 : (natI (1 :: (adj r).take (q + 1 - 1))).length = q + 1 := by rw [natI_length]; simp [adj_length, hrl]; omega
    obtain ⟨σ1, ha, hr1, hn1, hf1⟩ := append_row (x := ((x + y : Nat) : Int)) ty22 ty2 h2 hl2.symm (by omega)
    have hr1' : Row σ1 (σ.n + 1) (natI (1 :: (adj r).take (q + 1 + 1 - 1))) := by
      have : (adj r).take (q + 1) = (adj r).take q ++ [x + y] := by
        rw [List.take_add_one, adj_get r q x y hx hy]; rfl
      simpa [natI, this] using hr1
    obtain ⟨σ', b2', h3, h4, h5, h6⟩ := ih (q + 1 + 1) σ1 b (σ.n + 1) (by omega) (by omega) (by have := h1.lt; omega) (h1.keep (by omega) (hf1 b hbb h1.lt)) hr1'
    refine ⟨σ', b2', ?_, h4, h5, h6⟩
    have g1 := h1.read (natI_get hx)
    have g2 := h1.read (natI_get hy)
    have hlt : ¬ (i + 1 ≤ q + 1) := by omega
    have hlt' : ¬ (i ≤ q) := by omega
    have hlt2 : (q : Int) < (i : Int) + 1 := by omega
    have hlt3 : (q : Int) + 1 < (i : Int) + 1 := by omega
    have hlt4 : ¬ (i : Int) + 1 ≤ (q : Int) + 1 := by omega
    have hw1 : wrapA .i64 (q : Int) = (q : Int) := wrapA_id (by omega) (by omega)
    have hw2 : wrapA .i64 ((x : Int) + y) = ((x + y : Nat) : Int) := by rw [wrapA_id (by omega) (by omega)]; omega
    have hw3 : wrapA .i64 ((q : Int) + 1 + 1) = (q : Int) + 1 + 1 := wrapA_id (by omega) (by omega)
    have hz : (0 : Int) ≤ (q : Int) + 1 := by omega
    have htn : ((q : Int) + 1).toNat = q + 1 := by omega
    generalize hs : x + y = s at *
    have hq1 : ((q + 1 : Nat) : Int) = (q : Int) + 1 := by omega
    have hq2 : ((q + 1 + 1 : Nat) : Int) = (q : Int) + 1 + 1 := by omega
    rw [hq1]
    rw [hq2] at h3
    rw [fi83] at h3 ⊢
    rw [xl83_1]
    simp only [B83_1, b83, Try.f83, Option.getD, fstC, sndC, bodyC, thnC, elsC]
    simp [xI_seq, xI_region, xI_ret, regA, regOps, runOps, opStep, wantedA, opA, evo, evos, calleeA, lk, nif_eq, putE, paramsE, valS, val2, keepE, restrict, finA, resA, binA, binInt, ofConst, ofConst1, loadA, TK.isAgg, asVar, unA, builtinA, lenOpA, lenA, ileb_cast, ileb_eq, ieqb_dec, indexAddrA, inB_dec, evPairs, storeA, AV.cellsOf, pairsOf, xI_nil, binBool, gcE, evOpt, xI_block, xI_loopH, xI_condM, xI_exitM, xI_skip, xI_blk, exitA, ty2, ty3, ty22, eK83_0_0, eK83_1_2, eK83_1_1, eK83_1_0, hlt, hlt', hlt2, hlt3, hlt4, hw1, hw2, hw3, hz, htn, g1, g2, bs22, ha]
    exact h3
theorem l83_0 (n k : Nat) (hn : n ≤ 60) (hk : k ≤ n) : ∀ (m i : Nat) (σ : St) (b : Nat), i + m = n → Row σ b (natI (prow i)) →
    ∃ σ', exI TT (FI.of Try.f83 (TT.an 83)) K83_0 [(0, .int .i64 n), (1, .int .i64 k), (5, .sl b 0 (i + 1) (i + 1)), (6, .int .i64 i)] σ = some (.int .i64 (ch n k), σ') := by
  intro m
  induction m with
  | zero =>
    intro i σ b hi hr
    obtain rfl : i = n := by omega
    refine ⟨σ, ?_⟩
    have g1 := hr.read (natI_get (prow_get i k hk))
    have hlt : k < i + 1 := by omega
    have hlt2 : (k : Int) < (i : Int) + 1 := by omega
    rw [fi83]
    rw [xl83_0]
    simp only [B83_0, b83, Try.f83, Option.getD, fstC, sndC, bodyC, thnC, elsC]
    simp [xI_seq, xI_region, xI_ret, regA, regOps, runOps, opStep, wantedA, opA, evo, evos, calleeA, lk, nif_eq, putE, paramsE, valS, val2, keepE, restrict, finA, resA, binA, binInt, ofConst, ofConst1, loadA, TK.isAgg, asVar, unA, builtinA, lenOpA, lenA, ileb_cast, ileb_eq, ieqb_dec, indexAddrA, inB_dec, evPairs, storeA, AV.cellsOf, pairsOf, xI_nil, binBool, gcE, evOpt, xI_block, xI_loopH, xI_condM, xI_exitM, xI_skip, xI_blk, exitA, ty2, ty3, ty22, eK83_0_0, eK83_1_2, eK83_1_1, eK83_1_0]
    simp only [R83_0_0, b83, Try.f83, Option.getD, fstC, sndC, bodyC, thnC, elsC]
    simp [xI_seq, xI_region, xI_ret, regA, regOps, runOps, opStep, wantedA, opA, evo, evos, calleeA, lk, nif_eq, putE, paramsE, valS, val2, keepE, restrict, finA, resA, binA, binInt, ofConst, ofConst1, loadA, TK.isAgg, asVar, unA, builtinA, lenOpA, lenA, ileb_cast, ileb_eq, ieqb_dec, indexAddrA, inB_dec, evPairs, storeA, AV.cellsOf, pairsOf, xI_nil, binBool, gcE, evOpt, xI_block, xI_loopH, xI_condM, xI_exitM, xI_skip, xI_blk, exitA, ty2, ty3, ty22, eK83_0_0, eK83_1_2, eK83_1_1, eK83_1_0, hlt, hlt2, g1]
  | succ m ih =>
    intro i σ b hi hr
    have hlt : ¬ n ≤ i := by omega
    have hw := wrapS (n := i) (by omega)
    have hr0 := Row.push (σ := σ) (l := [1]) (o := false)
    have hbn := hr.lt
    obtain ⟨σ1, b1, h1, h2, h3, h4⟩ := l83_1 n k i (by omega) (prow i) (prow_length i) (fun x hx => by
      obtain ⟨j, hj⟩ := List.getElem?_of_mem hx
      have hjl := (List.getElem?_eq_some_iff.1 hj).1
      rw [prow_length] at hjl
      rw [prow_get i j (by omega)] at hj
      cases hj
      exact ch_le (by omega)) i 1 (σ.push ⟨ints [1], 1, false⟩) b σ.n (by omega) (by omega) (by omega) hr.pushed (by simpa [natI] using hr0)
    have hl4 : (natI (1 :: adj (prow i))).length = i + 1 := by rw [natI_length]; simp [adj_length, prow_length]
    obtain ⟨σ2, ha, hr2, hn2, hf2⟩ := append_row (x := 1) ty22 ty2 h4 hl4.symm (by omega)
    have hr2' : Row σ2 (σ1.n + 1) (natI (prow (i + 1))) := by simpa [natI, prow] using hr2
    obtain ⟨σ', h5⟩ := ih (i + 1) σ2 (σ1.n + 1) (by omega) hr2'
    refine ⟨σ', ?_⟩
    have hi1 : ((i + 1 : Nat) : Int) = (i : Int) + 1 := by omega
    rw [hi1] at h5
    have h6 : exI TT (FI.of Try.f83 (TT.an 83)) R83_1_2 [(0, .int .i64 n), (1, .int .i64 k), (5, .sl b 0 (i + 1) (i + 1)), (6, .int .i64 i), (7, .sl b1 0 (i + 1) (i + 1)), (8, .int .i64 (i + 1 : Nat)), (19, .bool false)] σ1 = some (.int .i64 (ch n k), σ') := by
      rw [fi83] at h5 ⊢
      simp only [R83_1_2, b83, Try.f83, Option.getD, fstC, sndC, bodyC, thnC, elsC]
      simp [xI_seq, xI_region, xI_ret, regA, regOps, runOps, opStep, wantedA, opA, evo, evos, calleeA, lk, nif_eq, putE, paramsE, valS, val2, keepE, restrict, finA, resA, binA, binInt, ofConst, ofConst1, loadA, TK.isAgg, asVar, unA, builtinA, lenOpA, lenA, ileb_cast, ileb_eq, ieqb_dec, indexAddrA, inB_dec, evPairs, storeA, AV.cellsOf, pairsOf, xI_nil, binBool, gcE, evOpt, xI_block, xI_loopH, xI_condM, xI_exitM, xI_skip, xI_blk, exitA, ty2, ty3, ty22, eK83_0_0, eK83_1_2, eK83_1_1, eK83_1_0, bs22, ha, hw]
      exact h5
    rw [h6] at h1
    rw [fi83] at h1 ⊢
    rw [xl83_0]
    simp only [B83_0, b83, Try.f83, Option.getD, fstC, sndC, bodyC, thnC, elsC]
    simp [xI_seq, xI_region, xI_ret, regA, regOps, runOps, opStep, wantedA, opA, evo, evos, calleeA, lk, nif_eq, putE, paramsE, valS, val2, keepE, restrict, finA, resA, binA, binInt, ofConst, ofConst1, loadA, TK.isAgg, asVar, unA, builtinA, lenOpA, lenA, ileb_cast, ileb_eq, ieqb_dec, indexAddrA, inB_dec, evPairs, storeA, AV.cellsOf, pairsOf, xI_nil, binBool, gcE, evOpt, xI_block, xI_loopH, xI_condM, xI_exitM, xI_skip, xI_blk, exitA, ty2, ty3, ty22, eK83_0_0, eK83_1_2, eK83_1_1, eK83_1_0, hlt, bs22]
    exact h1
theorem c83 (n k : Nat) (hn : n ≤ 60) (hk : k ≤ n) (σ : St) : callI TT 83 [.int .i64 n, .int .i64 k] σ = some (.int .i64 (ch n k), σ) := by
  obtain ⟨σ', h1⟩ := l83_0 n k hn hk n 0 ((⟨[], 0⟩ : St).push ⟨ints [1], 1, false⟩) 0 (by omega) ⟨false, rfl, by decide⟩
  refine (FnV.mk (args' := [.int .i64 n, .int .i64 k]) fn83 rfl md83 ⟨σ', ?_⟩ (fun _ => rfl) rfl) σ _ rfl
  have hb := bs22 ⟨[], 0⟩ 1
  rw [fi83] at h1 ⊢
  simp [xI_seq, xI_region, xI_ret, regA, regOps, runOps, opStep, wantedA, opA, evo, evos, calleeA, lk, nif_eq, putE, paramsE, valS, val2, keepE, restrict, finA, resA, binA, binInt, ofConst, ofConst1, loadA, TK.isAgg, asVar, unA, builtinA, lenOpA, lenA, ileb_cast, ileb_eq, ieqb_dec, indexAddrA, inB_dec, evPairs, storeA, AV.cellsOf, pairsOf, xI_nil, binBool, gcE, evOpt, xI_block, xI_loopH, xI_condM, xI_exitM, xI_skip, xI_blk, exitA, ty2, ty3, ty22, eK83_0_0, eK83_1_2, eK83_1_1, eK83_1_0, hb]
  exact h1

end Go.Proofs.Ytaniaeefijgaiaa
