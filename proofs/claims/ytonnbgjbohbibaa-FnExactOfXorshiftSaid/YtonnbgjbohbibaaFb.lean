/- Contracts: machines of shifts. Nothing is claimed here; no condition. -/
import Derived.Test.YtonnbgjbohbibaaEn
import Derived.Test.YtonnbgjbohbibaaEd
import Derived.Test.YtonnbgjbohbibaaEt
namespace Go.Proofs.Ytonnbgjbohbibaa
open Go Go.Abs
set_option linter.unusedSimpArgs false
set_option linter.unusedVariables false
open Go.Wd
def xsOk (w a b c : Int) : Bool := inR w 1 16 && (inR a 0 w && inR b 0 w && inR c 0 w)
def xsL (w a b c : Nat) : List Nat := (List.range w).map fun i => bitRow w a b c i w
def xsR (w a b c : Int) : Option (Int × List Int × Int) := if xsOk w a b c = true then some (w, nints (xsL w.toNat a.toNat b.toNat c.toNat), 1) else none
theorem xsR_no {w a b c : Int} (h : xsOk w a b c = false) : xsR w a b c = none := by simp [xsR, h]
theorem xsR_yes {w a b c : Nat} (h : xsOk w a b c = true) : xsR w a b c = some ((w : Int), nints (xsL w a b c), 1) := by simp [xsR, h]
theorem xs_nat {w a b c : Int} (h : xsOk w a b c = true) : ∃ w' a' b' c' : Nat, w = w' ∧ a = a' ∧ b = b' ∧ c = c' ∧ 1 ≤ w' ∧ w' ≤ 16 ∧ a' ≤ w' ∧ b' ≤ w' ∧ c' ≤ w' := by
  simp only [xsOk, Bool.and_eq_true] at h
  obtain ⟨h1, ⟨h2, h3⟩, h4⟩ := h
  have h1 := inR_iff.1 h1
  have h2 := inR_iff.1 h2
  have h3 := inR_iff.1 h3
  have h4 := inR_iff.1 h4
  exact ⟨w.toNat, a.toNat, b.toNat, c.toNat, by omega, by omega, by omega, by omega, by omega, by omega, by omega, by omega, by omega⟩
theorem xsR_length {w a b c W O : Int} {l : List Int} (h : xsR w a b c = some (W, l, O)) : l.length < 1000 := by
  unfold xsR at h
  split at h
  · rename_i hv
    obtain ⟨w', a', b', c', rfl, rfl, rfl, rfl, h1, h2, _⟩ := xs_nat hv
    cases h
    rw [nints_length]; simp [xsL]; omega
  · cases h
/-- A row of one move. -/
def upd (w k : Nat) (by_ b : Int) (i : Nat) : Nat := if 0 ≤ (if k = 1 then (i : Int) + b else i - by_) ∧ (if k = 1 then (i : Int) + b else i - by_) ≤ (w : Int) - 1 then xorN (pw i) (pw (if k = 1 then (i : Int) + b else i - by_).toNat) else pw i
theorem upd_up {w k i a : Nat} (hk : k ≠ 1) (b : Int) (hi : i < w) : upd w k a b i = upRow a i := by
  unfold upd upRow
  simp only [if_neg hk]
  by_cases h : a ≤ i
  · rw [if_pos ⟨by omega, by omega⟩, if_pos h, show ((i : Int) - a).toNat = i - a by omega]; rfl
  · rw [if_neg (by omega), if_neg h, Nat.xor_zero]; rfl
theorem upd_down {w i b : Nat} (by_ : Int) (hi : i < w) : upd w 1 by_ b i = downRow w b i := by
  unfold upd downRow
  simp only [if_true]
  by_cases h : i + b < w
  · rw [if_pos ⟨by omega, by omega⟩, if_pos h, show ((i : Int) + b).toNat = i + b by omega]; rfl
  · rw [if_neg (by omega), if_neg h, Nat.xor_zero]; rfl
theorem map_congr {w : Nat} {f h : Nat → Nat} (e : ∀ i, i < w → f i = h i) : (List.range w).map f = (List.range w).map h := List.map_congr_left fun i hi => e i (List.mem_range.1 hi)
theorem upd_62 {w k i : Nat} {by_ b : Int} (hw : w ≤ 16) (hi : i < w) : upd w k by_ b i < 2 ^ 62 := by
  have h1 : pw i < 2 ^ 62 := pow_62' (by omega)
  have h2 : ∀ f : Int, (if 0 ≤ f ∧ f ≤ (w : Int) - 1 then xorN (pw i) (pw f.toNat) else pw i) < 2 ^ 62 := by
    intro f
    by_cases h : 0 ≤ f ∧ f ≤ (w : Int) - 1
    · rw [if_pos h]
      have hf : f.toNat ≤ 61 := by omega
      exact xorN_lt h1 (pow_62' hf)
    · rw [if_neg h]; exact h1
  exact h2 _

noncomputable def b52 : Code := Try.f52.body.getD .skip
noncomputable def B52_0 : Code := (bodyC (bodyC (sndC (fstC (sndC (sndC (sndC b52)))))))
noncomputable def K52_0 : List It := .lp B52_0 :: .blk 0 :: .code (sndC (sndC (sndC (sndC b52)))) :: []
theorem xl52_0 {fi : FI} {env : Env} {σ : St} : exI TT fi K52_0 env σ = exI TT fi (.code B52_0 :: K52_0) env σ := by unfold K52_0; exact xI_lp
noncomputable def R52_0_0 : List It := .code (sndC (sndC (sndC (sndC b52)))) :: []
theorem eK52_0_0 : exitA 0 K52_0 = some R52_0_0 := rfl
noncomputable def B52_1 : Code := (bodyC (bodyC (sndC (fstC (sndC (sndC (bodyC (fstC (sndC (sndC (bodyC (bodyC (sndC (fstC (sndC (sndC (sndC b52)))))))))))))))))
noncomputable def K52_1 : List It := .lp B52_1 :: .blk 2 :: .code (sndC (sndC (sndC (bodyC (fstC (sndC (sndC (bodyC (bodyC (sndC (fstC (sndC (sndC (sndC b52)))))))))))))) :: .blk 1 :: .code (sndC (sndC (sndC (bodyC (bodyC (sndC (fstC (sndC (sndC (sndC b52)))))))))) :: K52_0
theorem xl52_1 {fi : FI} {env : Env} {σ : St} : exI TT fi K52_1 env σ = exI TT fi (.code B52_1 :: K52_1) env σ := by unfold K52_1; exact xI_lp
noncomputable def R52_1_2 : List It := .code (sndC (sndC (sndC (bodyC (fstC (sndC (sndC (bodyC (bodyC (sndC (fstC (sndC (sndC (sndC b52)))))))))))))) :: .blk 1 :: .code (sndC (sndC (sndC (bodyC (bodyC (sndC (fstC (sndC (sndC (sndC b52)))))))))) :: K52_0
theorem eK52_1_2 : exitA 2 K52_1 = some R52_1_2 := rfl
noncomputable def R52_1_1 : List It := .code (sndC (sndC (sndC (bodyC (bodyC (sndC (fstC (sndC (sndC (sndC b52)))))))))) :: K52_0
theorem eK52_1_1 : exitA 1 K52_1 = some R52_1_1 := rfl
theorem eK52_1_0 : exitA 0 K52_1 = some R52_0_0 := rfl
theorem l52b (w : Nat) (hw1 : 1 ≤ w) (hw : w ≤ 16) (b by_ : Int) (hb : -16 ≤ b ∧ b ≤ 16) (hby : -16 ≤ by_ ∧ by_ ≤ 16) (k : Nat) (hk : k ≤ 2) (V L : AV) : ∀ (m i : Nat) (σ : St) (q : Nat), i + m = w → Row σ q (nints ((List.range i).map (upd w k by_ b))) →
    ∃ σ' q', exI TT (FI.of Try.f52 (TT.an 52)) K52_1 [(0, .int .i64 w), (2, .int .i64 b), (8, .ptr 0 0), (10, V), (11, .int .i64 k), (12, .int .i64 by_), (13, .sl q 0 i i), (36, L), (37, .int .i64 k), (42, .int .i64 w), (43, .int .i64 i)] σ =
      exI TT (FI.of Try.f52 (TT.an 52)) R52_1_2 [(0, .int .i64 w), (2, .int .i64 b), (8, .ptr 0 0), (10, V), (11, .int .i64 k), (12, .int .i64 by_), (13, .sl q' 0 w w), (36, L), (37, .int .i64 k), (42, .int .i64 w), (43, .int .i64 w), (44, .bool false)] σ' ∧ Row σ' q' (nints ((List.range w).map (upd w k by_ b))) ∧ σ.n ≤ σ'.n ∧ ∀ c, c ≠ q → c < σ.n → σ'.get c = σ.get c := by
  intro m
  induction m with
  | zero =>
    intro i σ q hi hr
    obtain rfl : i = w := by omega
    refine ⟨σ, q, ?_, hr, Nat.le_refl _, fun _ _ _ => rfl⟩
    rw [fi52]
    rw [xl52_1]
    simp only [B52_1, b52, Try.f52, Option.getD, fstC, sndC, bodyC, thnC, elsC]
    simp [xI_seq, xI_region, xI_ret, regA, regOps, runOps, opStep, wantedA, opA, evo, evos, calleeA, lk, nif_eq, putE, paramsE, valS, val2, keepE, restrict, finA, resA, binA, binInt, ofConst, ofConst1, loadA, TK.isAgg, asVar, unA, builtinA, lenOpA, lenA, ileb_cast, ileb_eq, ieqb_dec, indexAddrA, inB_dec, evPairs, storeA, AV.cellsOf, pairsOf, xI_nil, binBool, gcE, evOpt, xI_block, xI_loopH, xI_condM, xI_exitM, xI_skip, xI_blk, exitA, ty2, ty3, ty4, ty33, ty41, ty115, eK52_0_0, eK52_1_2, eK52_1_1, eK52_1_0]
  | succ m ih =>
    intro i σ q hi hr
    have hrl := hr.lt
    obtain ⟨σ1, ha, hr1, hn1, hu1⟩ := nints_append_row (x := upd w k by_ b i) ty33 ty2 hr (n := i) (by simp) (by omega)
    rw [show (List.range i).map (upd w k by_ b) ++ [upd w k by_ b i] = (List.range (i + 1)).map (upd w k by_ b) by simp [List.range_succ]] at hr1
    obtain ⟨σ', q', h1, h2, h3, h4⟩ := ih (i + 1) σ1 (σ.n + 1) (by omega) hr1
    refine ⟨σ', q', ?_, h2, by omega, fun c hc hcn => (h4 c (by omega) (by omega)).trans (hu1 c hc hcn)⟩
    have hlt : ¬ w ≤ i := by omega
    have hlt2 : i < w := by omega
    have hwr := wrapS (n := i) (by omega)
    have d1 : wrapA .i64 ((i : Int) - by_) = (i : Int) - by_ := wrapA_id (by omega) (by omega)
    have d2 : wrapA .i64 ((i : Int) + b) = (i : Int) + b := wrapA_id (by omega) (by omega)
    have d3 : wrapA .i64 ((w : Int) - 1) = (w : Int) - 1 := wrapA_id (by omega) (by omega)
    have e1 := sh_1 (b := i) (by omega)
    simp only [Int.natCast_add, show ((1 : Nat) : Int) = 1 from rfl] at h1
    by_cases hk1 : k = 1
    · have hk1' : (k : Int) = 1 := by omega
      have cR := c80 ((i : Int) + b) 0 ((w : Int) - 1) σ
      have hu : upd w k by_ b i = if 0 ≤ (i : Int) + b ∧ (i : Int) + b ≤ (w : Int) - 1 then xorN (pw i) (pw ((i : Int) + b).toNat) else pw i := by unfold upd; simp only [if_pos hk1]
      cases hc : inR ((i : Int) + b) 0 ((w : Int) - 1) with
      | true =>
        have hc2 := inR_iff.1 hc
        rw [hc] at cR
        rw [if_pos hc2] at hu
        obtain ⟨f, hf⟩ : ∃ f : Nat, (i : Int) + b = f := ⟨((i : Int) + b).toNat, by omega⟩
        rw [hf] at d2 cR hu
        simp only [Int.toNat_natCast] at hu
        have e2 := sh_1 (b := f) (by omega)
        have hpi := pow_62' (k := i) (by omega)
        have hpf := pow_62' (k := f) (by omega)
        have e3 := n_xor (a := pw i) (b := pw f) (lt_62 hpi) (lt_62 hpf)
        rw [hu] at ha
        subst hk1
        rw [fi52] at h1 ⊢
        rw [xl52_1]
        simp only [B52_1, b52, Try.f52, Option.getD, fstC, sndC, bodyC, thnC, elsC]
        simp [xI_seq, xI_region, xI_ret, regA, regOps, runOps, opStep, wantedA, opA, evo, evos, calleeA, lk, nif_eq, putE, paramsE, valS, val2, keepE, restrict, finA, resA, binA, binInt, ofConst, ofConst1, loadA, TK.isAgg, asVar, unA, builtinA, lenOpA, lenA, ileb_cast, ileb_eq, ieqb_dec, indexAddrA, inB_dec, evPairs, storeA, AV.cellsOf, pairsOf, xI_nil, binBool, gcE, evOpt, xI_block, xI_loopH, xI_condM, xI_exitM, xI_skip, xI_blk, exitA, ty2, ty3, ty4, ty33, ty41, ty115, eK52_0_0, eK52_1_2, eK52_1_1, eK52_1_0, hlt, hlt2, hwr, d1, hf, d2, d3, e1, cR, e2, e3, bs1, ha]
        exact h1
      | false =>
        rw [hc] at cR
        rw [if_neg (fun h => by rw [inR_iff.2 h] at hc; cases hc)] at hu
        rw [hu] at ha
        subst hk1
        rw [fi52] at h1 ⊢
        rw [xl52_1]
        simp only [B52_1, b52, Try.f52, Option.getD, fstC, sndC, bodyC, thnC, elsC]
        simp [xI_seq, xI_region, xI_ret, regA, regOps, runOps, opStep, wantedA, opA, evo, evos, calleeA, lk, nif_eq, putE, paramsE, valS, val2, keepE, restrict, finA, resA, binA, binInt, ofConst, ofConst1, loadA, TK.isAgg, asVar, unA, builtinA, lenOpA, lenA, ileb_cast, ileb_eq, ieqb_dec, indexAddrA, inB_dec, evPairs, storeA, AV.cellsOf, pairsOf, xI_nil, binBool, gcE, evOpt, xI_block, xI_loopH, xI_condM, xI_exitM, xI_skip, xI_blk, exitA, ty2, ty3, ty4, ty33, ty41, ty115, eK52_0_0, eK52_1_2, eK52_1_1, eK52_1_0, hlt, hlt2, hwr, d1, d2, d3, e1, cR, bs1, ha]
        exact h1
    · have hk1' : ¬ (k : Int) = 1 := by omega
      have cR := c80 ((i : Int) - by_) 0 ((w : Int) - 1) σ
      have hu : upd w k by_ b i = if 0 ≤ (i : Int) - by_ ∧ (i : Int) - by_ ≤ (w : Int) - 1 then xorN (pw i) (pw ((i : Int) - by_).toNat) else pw i := by unfold upd; simp only [if_neg hk1]
      cases hc : inR ((i : Int) - by_) 0 ((w : Int) - 1) with
      | true =>
        have hc2 := inR_iff.1 hc
        rw [hc] at cR
        rw [if_pos hc2] at hu
        obtain ⟨f, hf⟩ : ∃ f : Nat, (i : Int) - by_ = f := ⟨((i : Int) - by_).toNat, by omega⟩
        rw [hf] at d1 cR hu
        simp only [Int.toNat_natCast] at hu
        have e2 := sh_1 (b := f) (by omega)
        have hpi := pow_62' (k := i) (by omega)
        have hpf := pow_62' (k := f) (by omega)
        have e3 := n_xor (a := pw i) (b := pw f) (lt_62 hpi) (lt_62 hpf)
        rw [hu] at ha
        rw [fi52] at h1 ⊢
        rw [xl52_1]
        simp only [B52_1, b52, Try.f52, Option.getD, fstC, sndC, bodyC, thnC, elsC]
        simp [xI_seq, xI_region, xI_ret, regA, regOps, runOps, opStep, wantedA, opA, evo, evos, calleeA, lk, nif_eq, putE, paramsE, valS, val2, keepE, restrict, finA, resA, binA, binInt, ofConst, ofConst1, loadA, TK.isAgg, asVar, unA, builtinA, lenOpA, lenA, ileb_cast, ileb_eq, ieqb_dec, indexAddrA, inB_dec, evPairs, storeA, AV.cellsOf, pairsOf, xI_nil, binBool, gcE, evOpt, xI_block, xI_loopH, xI_condM, xI_exitM, xI_skip, xI_blk, exitA, ty2, ty3, ty4, ty33, ty41, ty115, eK52_0_0, eK52_1_2, eK52_1_1, eK52_1_0, hlt, hlt2, hwr, hf, d1, d3, e1, cR, e2, e3, bs1, ha, hk1, hk1']
        exact h1
      | false =>
        rw [hc] at cR
        rw [if_neg (fun h => by rw [inR_iff.2 h] at hc; cases hc)] at hu
        rw [hu] at ha
        rw [fi52] at h1 ⊢
        rw [xl52_1]
        simp only [B52_1, b52, Try.f52, Option.getD, fstC, sndC, bodyC, thnC, elsC]
        simp [xI_seq, xI_region, xI_ret, regA, regOps, runOps, opStep, wantedA, opA, evo, evos, calleeA, lk, nif_eq, putE, paramsE, valS, val2, keepE, restrict, finA, resA, binA, binInt, ofConst, ofConst1, loadA, TK.isAgg, asVar, unA, builtinA, lenOpA, lenA, ileb_cast, ileb_eq, ieqb_dec, indexAddrA, inB_dec, evPairs, storeA, AV.cellsOf, pairsOf, xI_nil, binBool, gcE, evOpt, xI_block, xI_loopH, xI_condM, xI_exitM, xI_skip, xI_blk, exitA, ty2, ty3, ty4, ty33, ty41, ty115, eK52_0_0, eK52_1_2, eK52_1_1, eK52_1_0, hlt, hlt2, hwr, d1, d3, e1, cR, bs1, ha, hk1, hk1']
        exact h1
/-- One of the three moves. -/
theorem l52a (w : Nat) (hw1 : 1 ≤ w) (hw : w ≤ 16) (b by_ : Int) (hb : -16 ≤ b ∧ b ≤ 16) (hby : -16 ≤ by_ ∧ by_ ≤ 16) (k : Nat) (hk : k ≤ 2) (L : List AV) (hL : L.length = 3) (hg : getCells L k 1 = some [.int .i64 by_]) (rows : List Nat) (hrows : ∀ r ∈ rows, r < 2 ^ 62) (hrl : rows.length = w) (σ : St) (q : Nat) (hq : 0 < q) (hr : Row σ q (nints rows)) (g0 : σ.get 0 = some ⟨[.int .i64 0, .nilS, .int .i64 0], 3, false⟩) :
    ∃ σ' q', exI TT (FI.of Try.f52 (TT.an 52)) K52_0 [(0, .int .i64 w), (2, .int .i64 b), (8, .ptr 0 0), (10, .sl q 0 w w), (36, .agg L), (37, .int .i64 k)] σ =
      exI TT (FI.of Try.f52 (TT.an 52)) K52_0 [(0, .int .i64 w), (2, .int .i64 b), (8, .ptr 0 0), (10, .sl q' 0 w w), (36, .agg L), (37, .int .i64 ((k : Int) + 1))] σ' ∧ 0 < q' ∧ Row σ' q' (nints (times rows ((List.range w).map (upd w k by_ b)))) ∧ σ'.get 0 = some ⟨[.int .i64 0, .nilS, .int .i64 0], 3, false⟩ := by
  have hql := hr.lt
  obtain ⟨σ1, h1⟩ : ∃ σ1, σ.push ⟨ints [], 1, false⟩ = σ1 := ⟨_, rfl⟩
  have n1 : σ1.n = σ.n + 1 := by subst h1; rfl
  have r1 : Row σ1 σ.n (nints ((List.range 0).map (upd w k by_ b))) := by subst h1; exact Row.push
  have hr1 : Row σ1 q (nints rows) := by subst h1; exact hr.pushed
  obtain ⟨σ2, q2, h2, r2, n2, u2⟩ := l52b w hw1 hw b by_ hb hby k hk (.sl q 0 w w) (.agg L) w 0 σ1 σ.n (by omega) r1
  have hr2 : Row σ2 q (nints rows) := hr1.keep n2 (u2 q (by omega) (by omega))
  obtain ⟨σ3, q3, c3, r3, o3, e3⟩ := r95 rows ((List.range w).map (upd w k by_ b)) hrows (by omega) (fun r hr => by
    obtain ⟨i, hi, rfl⟩ := List.mem_map.1 hr
    exact upd_62 hw (List.mem_range.1 hi)) (by simp; omega) σ2 (.sl q 0 w w) (.sl q2 0 w w) (IsL.of_row hr2 (by rw [nints_length, hrl])) (IsL.of_row r2 (by rw [nints_length]; simp))
  rw [show ((List.range w).map (upd w k by_ b)).length = w by simp] at c3
  have hg2 : σ2.get 0 = σ.get 0 := (u2 0 (by omega) (by omega)).trans (by subst h1; exact get_push_lt (by omega))
  refine ⟨σ3, q3, ?_, by omega, r3, by rw [o3.2 0 (by omega), hg2]; exact g0⟩
  have hlt : ¬ 3 ≤ k := by omega
  have hlt2 : (k : Int) < 3 := by omega
  have hlt3 : k < 3 := by omega
  have hwr := wrapS (n := k) (by omega)
  simp only [Int.natCast_zero, show ((0 : Nat) : Int) = 0 from rfl] at h2
  rw [fi52] at h2 ⊢
  conv => lhs; rw [xl52_0]; simp only [B52_0, b52, Try.f52, Option.getD, fstC, sndC, bodyC, thnC, elsC]
  simp [xI_seq, xI_region, xI_ret, regA, regOps, runOps, opStep, wantedA, opA, evo, evos, calleeA, lk, nif_eq, putE, paramsE, valS, val2, keepE, restrict, finA, resA, binA, binInt, ofConst, ofConst1, loadA, TK.isAgg, asVar, unA, builtinA, lenOpA, lenA, ileb_cast, ileb_eq, ieqb_dec, indexAddrA, inB_dec, evPairs, storeA, AV.cellsOf, pairsOf, xI_nil, binBool, gcE, evOpt, xI_block, xI_loopH, xI_condM, xI_exitM, xI_skip, xI_blk, exitA, ty2, ty3, ty4, ty33, ty41, ty115, eK52_0_0, eK52_1_2, eK52_1_1, eK52_1_0, indexA, partA, ty115, ty2, hL, hg, hlt, hlt2, hlt3, hwr, bn0, h1]
  refine h2.trans ?_
  simp only [R52_1_2, b52, Try.f52, Option.getD, fstC, sndC, bodyC, thnC, elsC]
  simp [xI_seq, xI_region, xI_ret, regA, regOps, runOps, opStep, wantedA, opA, evo, evos, calleeA, lk, nif_eq, putE, paramsE, valS, val2, keepE, restrict, finA, resA, binA, binInt, ofConst, ofConst1, loadA, TK.isAgg, asVar, unA, builtinA, lenOpA, lenA, ileb_cast, ileb_eq, ieqb_dec, indexAddrA, inB_dec, evPairs, storeA, AV.cellsOf, pairsOf, xI_nil, binBool, gcE, evOpt, xI_block, xI_loopH, xI_condM, xI_exitM, xI_skip, xI_blk, exitA, ty2, ty3, ty4, ty33, ty41, ty115, eK52_0_0, eK52_1_2, eK52_1_1, eK52_1_0, c3, hwr]

theorem build3 (σ : St) (x y z : Int) : buildSliceA TT σ 33 3 [(0, .int .i64 x), (1, .int .i64 y), (2, .int .i64 z)] = some (.sl σ.n 0 3 3, σ.push ⟨ints [x, y, z], 1, false⟩) := by
  simp [buildSliceA, ty33, ty2, fillA, repeatCells, putCells, AV.cellsOf, allOne, AV.one, ints]
theorem res0 {σ : St} {x y z : AV} {a b c : AV} (h : σ.get 0 = some ⟨[a, b, c], 3, false⟩) (ho : allOne [x, y, z] = true) : ∃ σ', storeCellsA σ 0 0 [x, y, z] = some σ' ∧ cellsAt σ' (.ptr 0 0) 3 = some [x, y, z] ∧ ∀ d l, 0 < d → Row σ d l → Row σ' d l := by
  refine ⟨σ.set 0 ⟨[x, y, z], 3, false⟩, ?_, ?_, fun d l hd hr => hr.keep (Nat.le_refl _) (get_set_ne (by omega))⟩
  · simp [storeCellsA, h, ho, putN, overN]
  · simp [cellsAt, get_set_eq h, getCells, takeN, dropN]
theorem times_62' {A B : List Nat} (h : ∀ r ∈ A, r < 2 ^ 62) : ∀ r ∈ times A B, r < 2 ^ 62 := times_62 h
theorem o52 (w a b c : Int) : FnM TT 52 [.int .i64 w, .int .i64 a, .int .i64 b, .int .i64 c] (xsR w a b c) := by
  obtain ⟨σ, hσ⟩ : ∃ σ, (⟨[], 0⟩ : St).push ⟨[.int .i64 0, .nilS, .int .i64 0], 3, false⟩ = σ := ⟨_, rfl⟩
  have g0 : σ.get 0 = some ⟨[.int .i64 0, .nilS, .int .i64 0], 3, false⟩ := by subst hσ; rfl
  have hn : σ.n = 1 := by subst hσ; rfl
  have hi := c80 w 1 16 σ
  obtain ⟨σ1, hσ1⟩ : ∃ σ1, σ.push ⟨ints [a, b, c], 1, false⟩ = σ1 := ⟨_, rfl⟩
  have g1 : σ1.get 0 = some ⟨[.int .i64 0, .nilS, .int .i64 0], 3, false⟩ := by subst hσ1; rw [get_push_lt (by omega)]; exact g0
  have n1 : σ1.n = 2 := by subst hσ1; rw [n_push, hn]
  have hgs : σ1.get 1 = some ⟨ints [a, b, c], 1, false⟩ := by
    subst hσ1
    have := get_push_same (σ := σ) (x := ⟨ints [a, b, c], 1, false⟩)
    rwa [hn] at this
  have e1 : callI TT 79 [.sl 1 0 3 3, .int .i64 0, .int .i64 w] σ1 = some (.bool (allR [a, b, c] 0 w), σ1) := v79 [a, b, c] 3 rfl (by decide) 0 w σ1 _ (mapO_cons (frzV_sl (l := [a, b, c]) hgs rfl (Nat.le_refl _)) rfl)
  rw [show allR [a, b, c] 0 w = (inR a 0 w && inR b 0 w && inR c 0 w) by simp [allR, Bool.and_assoc]] at e1
  cases hv : xsOk w a b c with
  | false =>
    rw [xsR_no hv]
    cases h1 : inR w 1 16 with
    | false =>
      rw [h1] at hi
      obtain ⟨σn, m1, m2, _⟩ := res0 (x := .int .i64 0) (y := .nilS) (z := .int .i64 0) g0 rfl
      refine FnM.mkN fn52 rfl md52 ⟨σn, ?_⟩
      rw [fi52]
      simp [xI_seq, xI_region, xI_ret, regA, regOps, runOps, opStep, wantedA, opA, evo, evos, calleeA, lk, nif_eq, putE, paramsE, valS, val2, keepE, restrict, finA, resA, binA, binInt, ofConst, ofConst1, loadA, TK.isAgg, asVar, unA, builtinA, lenOpA, lenA, ileb_cast, ileb_eq, ieqb_dec, indexAddrA, inB_dec, evPairs, storeA, AV.cellsOf, pairsOf, xI_nil, binBool, gcE, evOpt, xI_block, xI_loopH, xI_condM, xI_exitM, xI_skip, xI_blk, exitA, ty2, ty3, ty4, ty33, ty41, ty115, eK52_0_0, eK52_1_2, eK52_1_1, eK52_1_0, buildA, sizesOf, fillA, allOne, AV.one, ty2, ty33, ty41, hσ, hi, m1, m2]
    | true =>
      rw [h1] at hi
      have h2 : (inR a 0 w && inR b 0 w && inR c 0 w) = false := by simpa [xsOk, h1] using hv
      rw [h2] at e1
      obtain ⟨σn, m1, m2, _⟩ := res0 (x := .int .i64 0) (y := .nilS) (z := .int .i64 0) g1 rfl
      refine FnM.mkN fn52 rfl md52 ⟨σn, ?_⟩
      rw [fi52]
      simp [xI_seq, xI_region, xI_ret, regA, regOps, runOps, opStep, wantedA, opA, evo, evos, calleeA, lk, nif_eq, putE, paramsE, valS, val2, keepE, restrict, finA, resA, binA, binInt, ofConst, ofConst1, loadA, TK.isAgg, asVar, unA, builtinA, lenOpA, lenA, ileb_cast, ileb_eq, ieqb_dec, indexAddrA, inB_dec, evPairs, storeA, AV.cellsOf, pairsOf, xI_nil, binBool, gcE, evOpt, xI_block, xI_loopH, xI_condM, xI_exitM, xI_skip, xI_blk, exitA, ty2, ty3, ty4, ty33, ty41, ty115, eK52_0_0, eK52_1_2, eK52_1_1, eK52_1_0, buildA, sizesOf, fillA, allOne, AV.one, ty2, ty33, ty41, hσ, hi, build3, hn, hσ1, e1, m1, m2]
  | true =>
    have hv0 := hv
    simp only [xsOk, Bool.and_eq_true] at hv0
    rw [hv0.1] at hi
    rw [show (inR a 0 w && inR b 0 w && inR c 0 w) = true by rw [hv0.2.1.1, hv0.2.1.2, hv0.2.2]; rfl] at e1
    obtain ⟨w, a, b, c, rfl, rfl, rfl, rfl, hw1, hw, ha, hb, hc⟩ := xs_nat hv
    rw [xsR_yes hv]
    obtain ⟨b2, σ2, c2, r2, o2, e2⟩ := (s94 w (by omega)).row (σ := σ1) (args := [.int .i64 w]) rfl
    rw [nints_length, units_length] at c2
    have g2 : σ2.get 0 = some ⟨[.int .i64 0, .nilS, .int .i64 0], 3, false⟩ := by rw [o2.2 0 (by omega)]; exact g1
    have u62 : ∀ r ∈ units 0 w, r < 2 ^ 62 := units_62 w (by omega)
    let L : List AV := [.int .i64 a, .int .i64 (-(b : Int)), .int .i64 c]
    obtain ⟨σ3, q3, d3, p3, r3, g3⟩ := l52a w hw1 hw b a (by omega) (by omega) 0 (by decide) L rfl rfl (units 0 w) u62 (units_length 0 w) σ2 b2 (by omega) r2 g2
    have t3 := times_62 (B := (List.range w).map (upd w 0 a b)) u62
    obtain ⟨σ4, q4, d4, p4, r4, g4⟩ := l52a w hw1 hw b (-(b : Int)) (by omega) (by omega) 1 (by decide) L rfl rfl _ t3 (by simp [times_length]) σ3 q3 p3 r3 g3
    have t4 := times_62 (B := (List.range w).map (upd w 1 (-(b : Int)) b)) t3
    obtain ⟨σ5, q5, d5, p5, r5, g5⟩ := l52a w hw1 hw b c (by omega) (by omega) 2 (by decide) L rfl rfl _ t4 (by simp [times_length]) σ4 q4 p4 r4 g4
    rw [map_congr (f := upd w 0 a b) (fun i hi => upd_up (by decide) b hi), map_congr (f := upd w 1 (-(b : Int)) b) (fun i hi => upd_down _ hi), map_congr (f := upd w 2 c b) (fun i hi => upd_up (by decide) b hi), xorshift (by omega) a b c] at r5
    obtain ⟨σ6, m1, m2, m3⟩ := res0 (x := .int .i64 w) (y := .sl q5 0 w w) (z := .int .i64 1) g5 rfl
    have r6 := m3 q5 _ p5 r5
    obtain ⟨o, r6, _⟩ := r6
    have hend : exI TT (FI.of Try.f52 (TT.an 52)) K52_0 [(0, .int .i64 w), (2, .int .i64 b), (8, .ptr 0 0), (10, .sl q5 0 w w), (36, .agg L), (37, .int .i64 3)] σ5 = some (.tup [.agg [.int .i64 w, .sl q5 0 w w, .int .i64 1], .bool true], σ6) := by
      rw [fi52]
      rw [xl52_0]
      simp only [B52_0, b52, Try.f52, Option.getD, fstC, sndC, bodyC, thnC, elsC]
      simp [xI_seq, xI_region, xI_ret, regA, regOps, runOps, opStep, wantedA, opA, evo, evos, calleeA, lk, nif_eq, putE, paramsE, valS, val2, keepE, restrict, finA, resA, binA, binInt, ofConst, ofConst1, loadA, TK.isAgg, asVar, unA, builtinA, lenOpA, lenA, ileb_cast, ileb_eq, ieqb_dec, indexAddrA, inB_dec, evPairs, storeA, AV.cellsOf, pairsOf, xI_nil, binBool, gcE, evOpt, xI_block, xI_loopH, xI_condM, xI_exitM, xI_skip, xI_blk, exitA, ty2, ty3, ty4, ty33, ty41, ty115, eK52_0_0, eK52_1_2, eK52_1_1, eK52_1_0]
      simp only [R52_0_0, b52, Try.f52, Option.getD, fstC, sndC, bodyC, thnC, elsC]
      simp [xI_seq, xI_region, xI_ret, regA, regOps, runOps, opStep, wantedA, opA, evo, evos, calleeA, lk, nif_eq, putE, paramsE, valS, val2, keepE, restrict, finA, resA, binA, binInt, ofConst, ofConst1, loadA, TK.isAgg, asVar, unA, builtinA, lenOpA, lenA, ileb_cast, ileb_eq, ieqb_dec, indexAddrA, inB_dec, evPairs, storeA, AV.cellsOf, pairsOf, xI_nil, binBool, gcE, evOpt, xI_block, xI_loopH, xI_condM, xI_exitM, xI_skip, xI_blk, exitA, ty2, ty3, ty4, ty33, ty41, ty115, eK52_0_0, eK52_1_2, eK52_1_1, eK52_1_0, buildA, sizesOf, fillA, putCells, allOne, AV.one, ty2, ty33, ty41, m1, m2]
    have hall : exI TT (FI.of Try.f52 (TT.an 52)) K52_0 [(0, .int .i64 w), (2, .int .i64 b), (8, .ptr 0 0), (10, .sl b2 0 w w), (36, .agg L), (37, .int .i64 0)] σ2 = some (.tup [.agg [.int .i64 w, .sl q5 0 w w, .int .i64 1], .bool true], σ6) := by
      refine d3.trans (Eq.trans ?_ (d4.trans (Eq.trans ?_ (d5.trans (Eq.trans ?_ hend)))))
      all_goals rfl
    have hxl : (nints (xsL w a b c)).length = w := by rw [nints_length]; simp [xsL]
    refine FnM.mkS fn52 rfl md52 ⟨σ6, q5, o, ?_, r6⟩
    rw [hxl, ← hall, fi52]
    have hneg : wrapA .i64 (-(b : Int)) = -(b : Int) := wrapA_id (by omega) (by omega)
    have hb2 : b2 = 2 := by omega
    subst hb2
    simp [xI_seq, xI_region, xI_ret, regA, regOps, runOps, opStep, wantedA, opA, evo, evos, calleeA, lk, nif_eq, putE, paramsE, valS, val2, keepE, restrict, finA, resA, binA, binInt, ofConst, ofConst1, loadA, TK.isAgg, asVar, unA, builtinA, lenOpA, lenA, ileb_cast, ileb_eq, ieqb_dec, indexAddrA, inB_dec, evPairs, storeA, AV.cellsOf, pairsOf, xI_nil, binBool, gcE, evOpt, xI_block, xI_loopH, xI_condM, xI_exitM, xI_skip, xI_blk, exitA, ty2, ty3, ty4, ty33, ty41, ty115, eK52_0_0, eK52_1_2, eK52_1_1, eK52_1_0, buildA, sizesOf, fillA, putCells, repeatCells, allOne, AV.one, ty2, ty33, ty41, ty115, hσ, hi, build3, hn, hσ1, e1, c2, hneg]
    rfl

/-- A move up within a width. -/
def upN (n k w : Nat) : Nat := modN (shlN n k) (pw w)
theorem v93u (n k w : Nat) (hn : n < 65536) (hk : k ≤ 16) (hw : w ≤ 16) : FnV TT 93 [.int .i64 n, .int .i64 k, .int .i64 w] (.int .i64 (upN n k w : Nat)) := by
  refine FnV.mk fn93 rfl md93 ⟨⟨[], 0⟩, ?_⟩ (fun _ => rfl) rfl
  have hpk : 2 ^ k ≤ 65536 := pw_16 hk
  have hl : n * 2 ^ k ≤ 65535 * 65536 := Nat.mul_le_mul (by omega) hpk
  have hp := pw_16 hw
  have hpp := pw_pos w
  have u1 := n_wrapu (a := k) (by omega)
  have u2 := n_wrapu (a := w) (by omega)
  have s1 := sh_l (a := n) (b := k) (by omega) (by omega)
  have s2 := sh_1 (b := w) (by omega)
  have s3 : wrapA .i64 (((pw w : Nat) : Int) - 1) = ((subN (pw w) 1 : Nat) : Int) := by rw [pw_dec hw]; show _ = ((pw w - 1 : Nat) : Int); omega
  have s4 := n_and (a := shlN n k) (b := subN (pw w) 1) (by show n * 2 ^ k ≤ _; omega) (by show pw w - 1 ≤ _; omega)
  rw [show andN (shlN n k) (subN (pw w) 1) = upN n k w from Nat.and_two_pow_sub_one_eq_mod _ w] at s4
  have c1 : ¬ (k : Int) < 0 := by omega
  rw [fi93]
  simp [xI_seq, xI_region, xI_ret, regA, regOps, runOps, opStep, wantedA, opA, evo, evos, calleeA, lk, nif_eq, putE, paramsE, valS, val2, keepE, restrict, finA, resA, binA, binInt, ofConst, ofConst1, loadA, TK.isAgg, asVar, unA, builtinA, lenOpA, lenA, ileb_cast, ileb_eq, ieqb_dec, indexAddrA, inB_dec, evPairs, storeA, AV.cellsOf, pairsOf, xI_nil, binBool, gcE, evOpt, xI_block, xI_loopH, xI_condM, xI_exitM, xI_skip, xI_blk, exitA, ty2, ty73, u1, u2, s1, s2, s3, s4, c1, convA, ty73]
theorem v93d (n k w : Nat) (hn : n < 65536) (hk : k ≤ 16) (hk1 : 1 ≤ k) : FnV TT 93 [.int .i64 n, .int .i64 (-(k : Int)), .int .i64 w] (.int .i64 (shrN n k : Nat)) := by
  refine FnV.mk fn93 rfl md93 ⟨⟨[], 0⟩, ?_⟩ (fun _ => rfl) rfl
  have c1 : -(k : Int) < 0 := by omega
  have c2 : 0 < k := by omega
  have c3 : ¬ k = 0 := by omega
  have n1 : wrapA .i64 (k : Int) = k := n_wrap (by omega)
  have u1 := n_wrapu (a := k) (by omega)
  have s1 := sh_r (a := n) (b := k) (by omega)
  rw [fi93]
  simp [xI_seq, xI_region, xI_ret, regA, regOps, runOps, opStep, wantedA, opA, evo, evos, calleeA, lk, nif_eq, putE, paramsE, valS, val2, keepE, restrict, finA, resA, binA, binInt, ofConst, ofConst1, loadA, TK.isAgg, asVar, unA, builtinA, lenOpA, lenA, ileb_cast, ileb_eq, ieqb_dec, indexAddrA, inB_dec, evPairs, storeA, AV.cellsOf, pairsOf, xI_nil, binBool, gcE, evOpt, xI_block, xI_loopH, xI_condM, xI_exitM, xI_skip, xI_blk, exitA, ty2, ty73, u1, s1, n1, c1, c2, c3, convA, ty73]
/-- A move down, as the reference makes it. -/
def dnN (n k w : Nat) : Nat := if k = 0 then upN n 0 w else shrN n k
theorem dn_eq {n k w : Nat} (hn : n < 2 ^ w) : dnN n k w = n / 2 ^ k := by
  unfold dnN
  split
  · rename_i h; subst h
    show n * 2 ^ 0 % 2 ^ w = n / 2 ^ 0
    rw [Nat.pow_zero, Nat.mul_one, Nat.div_one, Nat.mod_eq_of_lt hn]
  · rfl
theorem v93n (n k w : Nat) (hn : n < 65536) (hk : k ≤ 16) (hw : w ≤ 16) : FnV TT 93 [.int .i64 n, .int .i64 (-(k : Int)), .int .i64 w] (.int .i64 (dnN n k w : Nat)) := by
  by_cases h : k = 0
  · subst h
    rw [show dnN n 0 w = upN n 0 w by simp [dnN]]
    exact v93u n 0 w hn (by decide) hw
  · rw [show dnN n k w = shrN n k by simp [dnN, h]]
    exact v93d n k w hn hk (by omega)

end Go.Proofs.Ytonnbgjbohbibaa
