/- Contracts: orders of ranks. Nothing is claimed here; no condition. -/
import Derived.Test.YtaniaeefijgaiaaDb
namespace Go.Proofs.Ytaniaeefijgaiaa
open Go Go.Abs
set_option linter.unusedSimpArgs false
set_option linter.unusedVariables false
/-- The order with a rank, of what is left. -/
def ordAt : Nat → List Int → Nat → List Int → List Int
  | 0, _, _, out => out
  | m + 1, left, rank, out => ordAt m (left.eraseIdx (rank / fac m)) (rank % fac m) (out ++ [left.getD (rank / fac m) 0])
theorem ordAt_length : ∀ (m : Nat) (left : List Int) (rank : Nat) (out : List Int), (ordAt m left rank out).length = out.length + m
  | 0, _, _, _ => rfl
  | m + 1, left, rank, out => by rw [ordAt, ordAt_length]; simp; omega
theorem div_fac {rank m : Nat} (h : rank < fac (m + 1)) : rank / fac m < m + 1 := by
  rw [Nat.div_lt_iff_lt_mul (fac_pos m)]; exact h
theorem slice_tail {σ : St} {b n j : Nat} {l : List Int} (hr : Row σ b l) (hn : n = l.length) (hj : j ≤ n) : ∃ t, sliceA TT σ 22 (.sl b 0 n n) (some (.int .i64 (j : Int))) none = some t ∧ lenA t = some (n - j) ∧ firstA σ 1 (n - j) t = some (ints (l.drop j)) := by
  have h1 : boundA none n n = some n := by simp [boundA]
  have h2 : boundA (some (.int .i64 (j : Int))) n 0 = some j := by simp [boundA]; omega
  obtain ⟨o, hg, _⟩ := hr
  by_cases hlc : j = 0 ∨ j < n
  · refine ⟨.sl b j (n - j) (n - j), ?_, rfl, ?_⟩
    · simp only [sliceA, ty22, ty2, h1, h2]
      rw [if_pos hlc]; simp
    · simp only [firstA, hg, Nat.mul_one]
      rw [getCells_part (by omega)]
      congr 2
      rw [List.take_of_length_le (by simp; omega)]
  · have hm1 : j = n := by omega
    have hd : l.drop j = [] := List.drop_of_length_le (by omega)
    have hz : n - j = 0 := by omega
    rw [hd, hz]
    cases o with
    | false =>
      refine ⟨.sl b 0 0 0, ?_, rfl, by simp [firstA, hg, getCells, dropN, takeN, ints]⟩
      have hcl : closedB σ b = true := by simp [closedB, hg]
      simp only [sliceA, ty22, ty2, h1, h2]
      rw [if_neg hlc, if_pos hcl]
      simp [hg, hm1]
    | true =>
      refine ⟨.lst 0 [], ?_, rfl, by simp [firstA, getCells, dropN, takeN, ints]⟩
      have hcl : ¬ closedB σ b = true := by simp [closedB, hg]
      simp only [sliceA, ty22, ty2, h1, h2]
      rw [if_neg hlc, if_neg hcl]

noncomputable def b31 : Code := Try.f31.body.getD .skip
noncomputable def B31_0 : Code := (bodyC (bodyC (fstC (sndC (sndC (sndC b31))))))
noncomputable def K31_0 : List It := .lp B31_0 :: .blk 0 :: .code (sndC (sndC (sndC (sndC b31)))) :: []
theorem xl31_0 {fi : FI} {env : Env} {σ : St} : exI TT fi K31_0 env σ = exI TT fi (.code B31_0 :: K31_0) env σ := by unfold K31_0; exact xI_lp
noncomputable def R31_0_0 : List It := .code (sndC (sndC (sndC (sndC b31)))) :: []
theorem eK31_0_0 : exitA 0 K31_0 = some R31_0_0 := rfl
theorem l31 : ∀ (m : Nat) (left junk : List Int) (rank c q : Nat) (out : List Int) (σ : St) (b b2 : Nat), left.length = m → c = m + junk.length → c ≤ 12 → m ≤ 12 → rank < fac m → out.length = q → q ≤ 1000 - m → b ≠ b2 → Row σ b (left ++ junk) → Row σ b2 out →
    ∃ σ' b' q', exI TT (FI.of Try.f31 (TT.an 31)) K31_0 [(1, .int .i64 rank), (6, .sl b 0 m c), (7, .sl b2 0 q q)] σ = some (.tup [.sl b' 0 q' q', .bool true], σ') ∧ Row σ' b' (ordAt m left rank out) ∧ q' = (ordAt m left rank out).length := by
  intro m
  induction m with
  | zero =>
    intro left junk rank c q out σ b b2 hl hc hc12 hm12 hrk hq hq2 hbb hr hr2
    refine ⟨σ, b2, q, ?_, hr2, hq.symm⟩
    rw [fi31]
    rw [xl31_0]
    simp only [B31_0, b31, Try.f31, Option.getD, fstC, sndC, bodyC, thnC, elsC]
    simp [xI_seq, xI_region, xI_ret, regA, regOps, runOps, opStep, wantedA, opA, evo, evos, calleeA, lk, nif_eq, putE, paramsE, valS, val2, keepE, restrict, finA, resA, binA, binInt, ofConst, ofConst1, loadA, TK.isAgg, asVar, unA, builtinA, lenOpA, lenA, ileb_cast, ileb_eq, ieqb_dec, indexAddrA, inB_dec, evPairs, storeA, AV.cellsOf, pairsOf, xI_nil, binBool, gcE, evOpt, xI_block, xI_loopH, xI_condM, xI_exitM, xI_skip, xI_blk, exitA, ty2, ty3, ty4, ty22, eK31_0_0]
    simp only [R31_0_0, b31, Try.f31, Option.getD, fstC, sndC, bodyC, thnC, elsC]
    simp [xI_seq, xI_region, xI_ret, regA, regOps, runOps, opStep, wantedA, opA, evo, evos, calleeA, lk, nif_eq, putE, paramsE, valS, val2, keepE, restrict, finA, resA, binA, binInt, ofConst, ofConst1, loadA, TK.isAgg, asVar, unA, builtinA, lenOpA, lenA, ileb_cast, ileb_eq, ieqb_dec, indexAddrA, inB_dec, evPairs, storeA, AV.cellsOf, pairsOf, xI_nil, binBool, gcE, evOpt, xI_block, xI_loopH, xI_condM, xI_exitM, xI_skip, xI_blk, exitA, ty2, ty3, ty4, ty22, eK31_0_0]
  | succ m ih =>
    intro left junk rank c q out σ b b2 hl hc hc12 hm12 hrk hq hq2 hbb hr hr2
    have hk := div_fac hrk
    have hr' := Nat.mod_lt rank (fac_pos m)
    have hfl := fac_le (n := m + 1) (by omega)
    have hfm := fac_le (n := m) (by omega)
    have hF : ∀ σ, callI TT 74 [.int .i64 m] σ = some (.int .i64 (fac m), σ) := fun σ => c74 m (by omega) σ
    have hfp := fac_pos m
    have hL : callI TT 75 [.sl b 0 (m + 1) c] σ = some (.int .i64 ((m : Int) + 1), σ) := v75 left (m + 1) σ _ (mapO_cons (Row.frzP hr hl.symm (by omega)) rfl)
    obtain ⟨k, hkk⟩ : ∃ k, k = rank / fac m := ⟨_, rfl⟩
    obtain ⟨r, hrr⟩ : ∃ r, r = rank % fac m := ⟨_, rfl⟩
    have hgk : (left ++ junk)[k]? = some (left.getD k 0) := by
      rw [List.getElem?_append_left (by omega)]; exact getD_get (by omega)
    have g1 := hr.read hgk
    obtain ⟨σ1, ha, hr1, hn1, hf1⟩ := append_row (x := left.getD k 0) ty22 ty2 hr2 hq.symm (by omega)
    have hbn := hr.lt
    have hrb : Row σ1 b (left ++ junk) := hr.keep (by omega) (hf1 b hbb hbn)
    obtain ⟨σ2, hd, hr3, hu3⟩ := m76 σ1 b (m + 1) c k left junk hl.symm hc (by omega) (by omega) hrb
    have hr4 : Row σ2 (σ.n + 1) (out ++ [left.getD k 0]) := hr1.but (by omega) hu3
    have hel : (left.eraseIdx k).length = m := by rw [List.length_eraseIdx, if_pos (by omega)]; omega
    obtain ⟨σ', b', q', h1, h2, h3⟩ := ih (left.eraseIdx k) (0 :: junk) r c (q + 1) (out ++ [left.getD k 0]) σ2 b (σ.n + 1) hel (by simp; omega) hc12 (by omega) (by omega) (by simp [hq]) (by omega) (by omega) hr3 hr4
    have ho : ordAt (m + 1) left rank out = ordAt m (left.eraseIdx k) r (out ++ [left.getD k 0]) := by rw [ordAt, hkk, hrr]
    rw [ho]
    refine ⟨σ', b', q', ?_, h2, h3⟩
    have hq1 : (rank : Int).tdiv (fac m : Nat) = (k : Int) := by rw [hkk]; rfl
    have hq2' : (rank : Int).tmod (fac m : Nat) = (r : Int) := by rw [hrr]; rfl
    have hrkl : rank < 479001600 := by omega
    have hkl : k ≤ rank := by rw [hkk]; exact Nat.div_le_self _ _
    have hw1 : wrapA .i64 (m : Int) = m := wrapA_id (by omega) (by omega)
    have hw2 : wrapA .i64 (k : Int) = k := wrapA_id (by omega) (by omega)
    have hw3 : wrapA .i64 ((k : Int) + 1) = (k : Int) + 1 := wrapA_id (by omega) (by omega)
    have hne : ¬ ((fac m : Nat) : Int) = 0 := by omega
    have hne2 : ¬ fac m = 0 := by omega
    have hkm : k < m + 1 := by omega
    have hkm2 : (k : Int) < (m : Int) + 1 := by omega
    have hm0 : ¬ (m : Int) + 1 ≤ 0 := by omega
    rw [show ((k + 1 : Nat) : Int) = (k : Int) + 1 by omega, show m + 1 - 1 = m by omega] at hd
    generalize left.getD k 0 = z at *
    clear hkk hrr ho hk hr' hrk
    generalize fac m = fm at *
    rw [fi31] at h1 ⊢
    rw [xl31_0]
    simp only [B31_0, b31, Try.f31, Option.getD, fstC, sndC, bodyC, thnC, elsC]
    simp [xI_seq, xI_region, xI_ret, regA, regOps, runOps, opStep, wantedA, opA, evo, evos, calleeA, lk, nif_eq, putE, paramsE, valS, val2, keepE, restrict, finA, resA, binA, binInt, ofConst, ofConst1, loadA, TK.isAgg, asVar, unA, builtinA, lenOpA, lenA, ileb_cast, ileb_eq, ieqb_dec, indexAddrA, inB_dec, evPairs, storeA, AV.cellsOf, pairsOf, xI_nil, binBool, gcE, evOpt, xI_block, xI_loopH, xI_condM, xI_exitM, xI_skip, xI_blk, exitA, ty2, ty3, ty4, ty22, eK31_0_0, hL, hF, hq1, hq2', hw1, hw2, hw3, hne, hne2, hkm, hkm2, hm0, g1, bs22, ha, hd]
    exact h1

noncomputable def b73 : Code := Try.f73.body.getD .skip
noncomputable def B73_0 : Code := (bodyC (bodyC (sndC (fstC (sndC (sndC (sndC b73)))))))
noncomputable def K73_0 : List It := .lp B73_0 :: .blk 0 :: .code (sndC (sndC (sndC (sndC b73)))) :: []
theorem xl73_0 {fi : FI} {env : Env} {σ : St} : exI TT fi K73_0 env σ = exI TT fi (.code B73_0 :: K73_0) env σ := by unfold K73_0; exact xI_lp
noncomputable def R73_0_0 : List It := .code (sndC (sndC (sndC (sndC b73)))) :: []
theorem eK73_0_0 : exitA 0 K73_0 = some R73_0_0 := rfl
theorem l73 : ∀ (m : Nat) (left : List Int) (rank q : Nat) (out : List Int) (σ : St) (b b2 : Nat), left.length = m → m ≤ 12 → rank < fac m → out.length = q → q ≤ 1000 - m → b ≠ b2 → Row σ b left → Row σ b2 out →
    ∃ σ' b' q', exI TT (FI.of Try.f73 (TT.an 73)) K73_0 [(1, .int .i64 rank), (5, .sl b 0 m m), (6, .sl b2 0 q q), (7, .int .i64 ((m : Int) - 1))] σ = some (.sl b' 0 q' q', σ') ∧ Row σ' b' (ordAt m left rank out) ∧ q' = (ordAt m left rank out).length := by
  intro m
  induction m with
  | zero =>
    intro left rank q out σ b b2 hl hm12 hrk hq hq2 hbb hr hr2
    refine ⟨σ, b2, q, ?_, hr2, hq.symm⟩
    rw [fi73]
    rw [xl73_0]
    simp only [B73_0, b73, Try.f73, Option.getD, fstC, sndC, bodyC, thnC, elsC]
    simp [xI_seq, xI_region, xI_ret, regA, regOps, runOps, opStep, wantedA, opA, evo, evos, calleeA, lk, nif_eq, putE, paramsE, valS, val2, keepE, restrict, finA, resA, binA, binInt, ofConst, ofConst1, loadA, TK.isAgg, asVar, unA, builtinA, lenOpA, lenA, ileb_cast, ileb_eq, ieqb_dec, indexAddrA, inB_dec, evPairs, storeA, AV.cellsOf, pairsOf, xI_nil, binBool, gcE, evOpt, xI_block, xI_loopH, xI_condM, xI_exitM, xI_skip, xI_blk, exitA, ty2, ty22, eK73_0_0]
    simp only [R73_0_0, b73, Try.f73, Option.getD, fstC, sndC, bodyC, thnC, elsC]
    simp [xI_seq, xI_region, xI_ret, regA, regOps, runOps, opStep, wantedA, opA, evo, evos, calleeA, lk, nif_eq, putE, paramsE, valS, val2, keepE, restrict, finA, resA, binA, binInt, ofConst, ofConst1, loadA, TK.isAgg, asVar, unA, builtinA, lenOpA, lenA, ileb_cast, ileb_eq, ieqb_dec, indexAddrA, inB_dec, evPairs, storeA, AV.cellsOf, pairsOf, xI_nil, binBool, gcE, evOpt, xI_block, xI_loopH, xI_condM, xI_exitM, xI_skip, xI_blk, exitA, ty2, ty22, eK73_0_0]
  | succ m ih =>
    intro left rank q out σ b b2 hl hm12 hrk hq hq2 hbb hr hr2
    have hk := div_fac hrk
    have hr' := Nat.mod_lt rank (fac_pos m)
    have hfl := fac_le (n := m + 1) (by omega)
    have hfm := fac_le (n := m) (by omega)
    have hF : ∀ σ, callI TT 72 [.int .i64 m] σ = some (.int .i64 (fac m), σ) := fun σ => c72 m (by omega) σ
    have hfp := fac_pos m
    obtain ⟨k, hkk⟩ : ∃ k, k = rank / fac m := ⟨_, rfl⟩
    obtain ⟨r, hrr⟩ : ∃ r, r = rank % fac m := ⟨_, rfl⟩
    have hgk : left[k]? = some (left.getD k 0) := getD_get (by omega)
    have g1 := hr.read hgk
    obtain ⟨σ1, ha, hr1, hn1, hf1⟩ := append_row (x := left.getD k 0) ty22 ty2 hr2 hq.symm (by omega)
    have hbn := hr.lt
    have hrb : Row σ1 b left := hr.keep (by omega) (hf1 b hbb hbn)
    have hbn1 := hrb.lt
    have hrp : Row (σ1.push ⟨ints [], 1, false⟩) b left := hrb.pushed
    have e37 : sliceA TT (σ1.push ⟨ints [], 1, false⟩) 22 (.sl b 0 (m + 1) (m + 1)) none (some (.int .i64 (k : Int))) = some (.sl b 0 k (m + 1)) := by
      have h1 : boundA (some (.int .i64 (k : Int))) (m + 1) (m + 1) = some k := by simp [boundA]; omega
      have h2 : boundA none k 0 = some 0 := by simp [boundA]
      simp [sliceA, ty22, ty2, h1, h2]
    have hf37 : firstA (σ1.push ⟨ints [], 1, false⟩) 1 k (.sl b 0 k (m + 1)) = some (ints (left.take k)) := by
      obtain ⟨y, hy, hyc⟩ := hrp.cells
      simp only [firstA, hy, hyc, Nat.mul_one]
      rw [getCells_part (by omega)]; simp
    obtain ⟨b3, σ3, ha3, hr3, hn3, hb3, hf3⟩ := append_many (nl := left.take k) (k := k) (n := 0) ty22 ty2 (Row.push (σ := σ1) (l := []) (o := false)) rfl (by simp; omega) rfl hf37 (by omega)
    have hb3n : b3 = σ1.n ∨ b3 = σ1.n + 1 := hb3
    have hrb3 : Row σ3 b left := hrp.keep hn3 (hf3 b (by omega) hrp.lt)
    obtain ⟨t43, e43, hl43, hf43⟩ := slice_tail (j := k + 1) hrb3 hl.symm (by omega)
    have hr3' : Row σ3 b3 (left.take k) := by simpa using hr3
    obtain ⟨b4, σ4, ha4, hr4, hn4, hb4, hf4⟩ := append_many (nl := left.drop (k + 1)) (k := m + 1 - (k + 1)) (n := k) ty22 ty2 hr3' (by simp; omega) (by simp; omega) hl43 hf43 (by omega)
    have hb3lt := hr3'.lt
    have hpn : (σ1.push ⟨ints [], 1, false⟩).n = σ1.n + 1 := rfl
    have hr2a : Row (σ1.push ⟨ints [], 1, false⟩) (σ.n + 1) (out ++ [left.getD k 0]) := hr1.pushed
    have hr2b : Row σ3 (σ.n + 1) (out ++ [left.getD k 0]) := hr2a.keep hn3 (hf3 _ (by omega) hr2a.lt)
    have hr2c : Row σ4 (σ.n + 1) (out ++ [left.getD k 0]) := hr2b.keep hn4 (hf4 _ (by omega) hr2b.lt)
    rw [← List.eraseIdx_eq_take_drop_succ] at hr4
    have hel : (left.eraseIdx k).length = m := by rw [List.length_eraseIdx, if_pos (by omega)]; omega
    have hkm' : k + (m + 1 - (k + 1)) = m := by omega
    rw [hkm'] at ha4
    obtain ⟨σ', b', q', h1, h2, h3⟩ := ih (left.eraseIdx k) r (q + 1) (out ++ [left.getD k 0]) σ4 b4 (σ.n + 1) hel (by omega) (by omega) (by simp [hq]) (by omega) (by omega) hr4 hr2c
    have ho : ordAt (m + 1) left rank out = ordAt m (left.eraseIdx k) r (out ++ [left.getD k 0]) := by rw [ordAt, hkk, hrr]
    rw [ho]
    refine ⟨σ', b', q', ?_, h2, h3⟩
    have hq1 : (rank : Int).tdiv (fac m : Nat) = (k : Int) := by rw [hkk]; rfl
    have hq2' : (rank : Int).tmod (fac m : Nat) = (r : Int) := by rw [hrr]; rfl
    have hkl : k ≤ rank := by rw [hkk]; exact Nat.div_le_self _ _
    have hw1 : wrapA .i64 ((m : Int) - 1) = (m : Int) - 1 := wrapA_id (by omega) (by omega)
    have hw2 : wrapA .i64 (k : Int) = k := wrapA_id (by omega) (by omega)
    have hw3 : wrapA .i64 ((k : Int) + 1) = (k : Int) + 1 := wrapA_id (by omega) (by omega)
    have hne : ¬ ((fac m : Nat) : Int) = 0 := by omega
    have hne2 : ¬ fac m = 0 := by omega
    have hkm : k < m + 1 := by omega
    have hkm2 : (k : Int) < (m : Int) + 1 := by omega
    have hbn22 := bn22 σ1
    rw [show ((k + 1 : Nat) : Int) = (k : Int) + 1 by omega] at e43
    rw [show (((m + 1 : Nat) : Int) - 1) = (m : Int) by omega]
    simp only [Nat.zero_add] at ha3
    generalize left.getD k 0 = z at *
    clear hkk hrr ho hk hr' hrk
    generalize fac m = fm at *
    rw [fi73] at h1 ⊢
    rw [xl73_0]
    simp only [B73_0, b73, Try.f73, Option.getD, fstC, sndC, bodyC, thnC, elsC]
    simp [xI_seq, xI_region, xI_ret, regA, regOps, runOps, opStep, wantedA, opA, evo, evos, calleeA, lk, nif_eq, putE, paramsE, valS, val2, keepE, restrict, finA, resA, binA, binInt, ofConst, ofConst1, loadA, TK.isAgg, asVar, unA, builtinA, lenOpA, lenA, ileb_cast, ileb_eq, ieqb_dec, indexAddrA, inB_dec, evPairs, storeA, AV.cellsOf, pairsOf, xI_nil, binBool, gcE, evOpt, xI_block, xI_loopH, xI_condM, xI_exitM, xI_skip, xI_blk, exitA, ty2, ty22, eK73_0_0, hF, hq1, hq2', hw1, hw2, hw3, hne, hne2, hkm, hkm2, g1, bs22, hbn22, ha, e37, ha3, e43, ha4]
    exact h1
theorem s73 (n rank : Nat) (hn : n ≤ 12) (hrk : rank < fac n) : FnS TT 73 [.int .i64 n, .int .i64 rank] (ordAt n (iotaF 0 n) rank []) := by
  obtain ⟨b, σ1, hA, rA, _, eb⟩ := (s65 n (by omega)).row (σ := ⟨[], 0⟩) (args := [.int .i64 n]) rfl
  rw [iotaF_length] at hA
  have hlt := rA.lt
  obtain ⟨σ', b', q', h1, ⟨o, h2, _⟩, h3⟩ := l73 n (iotaF 0 n) rank 0 [] (σ1.push ⟨ints [], 1, false⟩) b σ1.n (iotaF_length _ _) hn hrk rfl (by omega) (by omega) rA.pushed Row.push
  refine FnS.mk fn73 rfl md73 ⟨σ', b', o, ?_, h2⟩
  rw [← h3]
  have hw : wrapA .i64 ((n : Int) - 1) = (n : Int) - 1 := wrapA_id (by omega) (by omega)
  have hb := bn22 σ1
  rw [fi73] at h1 ⊢
  simp [xI_seq, xI_region, xI_ret, regA, regOps, runOps, opStep, wantedA, opA, evo, evos, calleeA, lk, nif_eq, putE, paramsE, valS, val2, keepE, restrict, finA, resA, binA, binInt, ofConst, ofConst1, loadA, TK.isAgg, asVar, unA, builtinA, lenOpA, lenA, ileb_cast, ileb_eq, ieqb_dec, indexAddrA, inB_dec, evPairs, storeA, AV.cellsOf, pairsOf, xI_nil, binBool, gcE, evOpt, xI_block, xI_loopH, xI_condM, xI_exitM, xI_skip, xI_blk, exitA, ty2, ty22, eK73_0_0, hA, hw, hb]
  exact h1
def ordR (n rank : Int) : Option (List Int) := if inR n 1 12 = true ∧ inR rank 0 ((fac n.toNat : Int) - 1) = true then some (ordAt n.toNat (iotaF 0 n.toNat) rank.toNat []) else none
theorem ordR_length {n rank : Int} {out : List Int} (h : ordR n rank = some out) : out.length ≤ 12 := by
  unfold ordR at h
  split at h
  · rename_i hc
    cases h
    have := inR_iff.1 hc.1
    rw [ordAt_length]; simp; omega
  · cases h

theorem o31 (n rank : Int) : FnO TT 31 [.int .i64 n, .int .i64 rank] (ordR n rank) := by
  cases h1 : inR n 1 12 with
  | false =>
    have hr : ordR n rank = none := by simp [ordR, h1]
    rw [hr]
    refine FnO.mkN fn31 rfl md31 ⟨⟨[], 0⟩, ?_⟩
    rw [fi31]
    simp [xI_seq, xI_region, xI_ret, regA, regOps, runOps, opStep, wantedA, opA, evo, evos, calleeA, lk, nif_eq, putE, paramsE, valS, val2, keepE, restrict, finA, resA, binA, binInt, ofConst, ofConst1, loadA, TK.isAgg, asVar, unA, builtinA, lenOpA, lenA, ileb_cast, ileb_eq, ieqb_dec, indexAddrA, inB_dec, evPairs, storeA, AV.cellsOf, pairsOf, xI_nil, binBool, gcE, evOpt, xI_block, xI_loopH, xI_condM, xI_exitM, xI_skip, xI_blk, exitA, ty2, ty3, ty4, ty22, eK31_0_0, c67, c69, h1]
  | true =>
    have k1 := inR_iff.1 h1
    obtain ⟨m, rfl⟩ : ∃ m : Nat, n = m := ⟨n.toNat, by omega⟩
    have hF : ∀ σ, callI TT 74 [.int .i64 m] σ = some (.int .i64 (fac m), σ) := fun σ => c74 m (by omega) σ
    have hfl := fac_le (n := m) (by omega)
    have hw : wrapA .i64 ((fac m : Int) - 1) = (fac m : Int) - 1 := wrapA_id (by omega) (by omega)
    cases h2 : inR rank 0 ((fac m : Int) - 1) with
    | false =>
      have hr : ordR m rank = none := by simp [ordR, h2]
      rw [hr]
      refine FnO.mkN fn31 rfl md31 ⟨⟨[], 0⟩, ?_⟩
      generalize fac m = fm at *
      rw [fi31]
      simp [xI_seq, xI_region, xI_ret, regA, regOps, runOps, opStep, wantedA, opA, evo, evos, calleeA, lk, nif_eq, putE, paramsE, valS, val2, keepE, restrict, finA, resA, binA, binInt, ofConst, ofConst1, loadA, TK.isAgg, asVar, unA, builtinA, lenOpA, lenA, ileb_cast, ileb_eq, ieqb_dec, indexAddrA, inB_dec, evPairs, storeA, AV.cellsOf, pairsOf, xI_nil, binBool, gcE, evOpt, xI_block, xI_loopH, xI_condM, xI_exitM, xI_skip, xI_blk, exitA, ty2, ty3, ty4, ty22, eK31_0_0, c67, c69, h1, hF, hw, h2]
    | true =>
      have k2 := inR_iff.1 h2
      obtain ⟨r, rfl⟩ : ∃ r : Nat, rank = r := ⟨rank.toNat, by omega⟩
      have hr : ordR m r = some (ordAt m (iotaF 0 m) r []) := by simp [ordR, h1, h2]
      rw [hr]
      obtain ⟨b, σ1, hA, rA, _, eb⟩ := (s68 m (by omega)).row (σ := ⟨[], 0⟩) (args := [.int .i64 m]) rfl
      rw [iotaF_length] at hA
      have hlt := rA.lt
      obtain ⟨σ', b', q', h3, ⟨o, h4, _⟩, h5⟩ := l31 m (iotaF 0 m) [] r m 0 [] (σ1.push ⟨ints [], 1, false⟩) b σ1.n (iotaF_length _ _) (by simp) (by omega) (by omega) (by omega) rfl (by omega) (by omega) (by simpa using rA.pushed) Row.push
      refine FnO.mkS fn31 rfl md31 ⟨σ', b', o, ?_, h4⟩
      rw [← h5]
      have hb := bn22 σ1
      generalize fac m = fm at *
      rw [fi31] at h3 ⊢
      simp [xI_seq, xI_region, xI_ret, regA, regOps, runOps, opStep, wantedA, opA, evo, evos, calleeA, lk, nif_eq, putE, paramsE, valS, val2, keepE, restrict, finA, resA, binA, binInt, ofConst, ofConst1, loadA, TK.isAgg, asVar, unA, builtinA, lenOpA, lenA, ileb_cast, ileb_eq, ieqb_dec, indexAddrA, inB_dec, evPairs, storeA, AV.cellsOf, pairsOf, xI_nil, binBool, gcE, evOpt, xI_block, xI_loopH, xI_condM, xI_exitM, xI_skip, xI_blk, exitA, ty2, ty3, ty4, ty22, eK31_0_0, c67, c69, h1, hF, hw, h2, hA, hb]
      exact h3

theorem o30 (n rank : Int) : FnO TT 30 [.int .i64 n, .int .i64 rank] (ordR n rank) := by
  cases h1 : inR n 1 12 with
  | false =>
    have hr : ordR n rank = none := by simp [ordR, h1]
    rw [hr]
    refine FnO.mkN fn30 rfl md30 ⟨⟨[], 0⟩, ?_⟩
    rw [fi30]
    simp [xI_seq, xI_region, xI_ret, regA, regOps, runOps, opStep, wantedA, opA, evo, evos, calleeA, lk, nif_eq, putE, paramsE, valS, val2, keepE, restrict, finA, resA, binA, binInt, ofConst, ofConst1, loadA, TK.isAgg, asVar, unA, builtinA, lenOpA, lenA, ileb_cast, ileb_eq, ieqb_dec, indexAddrA, inB_dec, evPairs, storeA, AV.cellsOf, pairsOf, xI_nil, binBool, gcE, evOpt, xI_block, xI_loopH, xI_condM, xI_exitM, xI_skip, xI_blk, exitA, ty2, ty4, c64, c66, h1]
  | true =>
    have k1 := inR_iff.1 h1
    obtain ⟨m, rfl⟩ : ∃ m : Nat, n = m := ⟨n.toNat, by omega⟩
    have hF : ∀ σ, callI TT 72 [.int .i64 m] σ = some (.int .i64 (fac m), σ) := fun σ => c72 m (by omega) σ
    have hfl := fac_le (n := m) (by omega)
    have hw : wrapA .i64 ((fac m : Int) - 1) = (fac m : Int) - 1 := wrapA_id (by omega) (by omega)
    cases h2 : inR rank 0 ((fac m : Int) - 1) with
    | false =>
      have hr : ordR m rank = none := by simp [ordR, h2]
      rw [hr]
      refine FnO.mkN fn30 rfl md30 ⟨⟨[], 0⟩, ?_⟩
      generalize fac m = fm at *
      rw [fi30]
      simp [xI_seq, xI_region, xI_ret, regA, regOps, runOps, opStep, wantedA, opA, evo, evos, calleeA, lk, nif_eq, putE, paramsE, valS, val2, keepE, restrict, finA, resA, binA, binInt, ofConst, ofConst1, loadA, TK.isAgg, asVar, unA, builtinA, lenOpA, lenA, ileb_cast, ileb_eq, ieqb_dec, indexAddrA, inB_dec, evPairs, storeA, AV.cellsOf, pairsOf, xI_nil, binBool, gcE, evOpt, xI_block, xI_loopH, xI_condM, xI_exitM, xI_skip, xI_blk, exitA, ty2, ty4, c64, c66, h1, hF, hw, h2]
    | true =>
      have k2 := inR_iff.1 h2
      obtain ⟨r, rfl⟩ : ∃ r : Nat, rank = r := ⟨rank.toNat, by omega⟩
      have hr : ordR m r = some (ordAt m (iotaF 0 m) r []) := by simp [ordR, h1, h2]
      rw [hr]
      obtain ⟨b, σ1, hA, ⟨o, hb, _⟩, _, _⟩ := (s73 m r (by omega) (by omega)).row (σ := ⟨[], 0⟩) (args := [.int .i64 m, .int .i64 r]) rfl
      refine FnO.mkS fn30 rfl md30 ⟨σ1, b, o, ?_, hb⟩
      generalize fac m = fm at *
      rw [fi30]
      simp [xI_seq, xI_region, xI_ret, regA, regOps, runOps, opStep, wantedA, opA, evo, evos, calleeA, lk, nif_eq, putE, paramsE, valS, val2, keepE, restrict, finA, resA, binA, binInt, ofConst, ofConst1, loadA, TK.isAgg, asVar, unA, builtinA, lenOpA, lenA, ileb_cast, ileb_eq, ieqb_dec, indexAddrA, inB_dec, evPairs, storeA, AV.cellsOf, pairsOf, xI_nil, binBool, gcE, evOpt, xI_block, xI_loopH, xI_condM, xI_exitM, xI_skip, xI_blk, exitA, ty2, ty4, c64, c66, h1, hF, hw, h2, hA]

end Go.Proofs.Ytaniaeefijgaiaa
