/- Machines of shifts; a drawn machine, its steps, jumps and steps back. Nothing is claimed here; no condition. -/
import Derived.Test.YtonnbgjbohbibaaEn
import Derived.Test.YtonnbgjbohbibaaEd
import Derived.Test.YtonnbgjbohbibaaEt
import Derived.Test.YtonnbgjbohbibaaEj
import Derived.Test.YtonnbgjbohbibaaEi
import Derived.Test.YtonnbgjbohbibaaXp
namespace Go.Proofs.Ytonnbgjbohbibaa
open Go Go.Abs
set_option linter.unusedSimpArgs false
set_option linter.unusedVariables false
open Go.Wd
def xsOk (w a b c : Int) : Bool := inR w 1 16 && (inR a 0 w && inR b 0 w && inR c 0 w)
def xsL (w a b c : Nat) : List Nat := (List.range w).map fun i => bitRow w a b c i w
def xsR (w a b c : Int) : Option (Int × List Int × Int) := if xsOk w a b c = true then some (w, nints (xsL w.toNat a.toNat b.toNat c.toNat), 1) else none
theorem xsR_no {w a b c : Int} (h : xsOk w a b c = false) : xsR w a b c = none := by simp [xsR, h]
theorem xsR_yes {w a b c : Nat} (h : xsOk w a b c = true) : xsR w a b c = some ((w : Int), nints (xsL w a b c), 1) := by simp [xsR, h]
theorem xs_nat {w a b c : Int} (h : xsOk w a b c = true) : ∃ w' a' b' c' : Nat, w = w' ∧ a = a' ∧ b = b' ∧ c = c' ∧ 1 ≤ w' ∧ w' ≤ 16 ∧ a' ≤ w' ∧ b' ≤ w' ∧ c' ≤ w' := by
  simp only [xsOk, Bool.and_eq_true] at h
  obtain ⟨h1, ⟨h2, h3⟩, h4⟩ := h
  have h1 := inR_iff.1 h1
  have h2 := inR_iff.1 h2
  have h3 := inR_iff.1 h3
  have h4 := inR_iff.1 h4
  exact ⟨w.toNat, a.toNat, b.toNat, c.toNat, by omega, by omega, by omega, by omega, by omega, by omega, by omega, by omega, by omega⟩
theorem xsR_length {w a b c W O : Int} {l : List Int} (h : xsR w a b c = some (W, l, O)) : l.length < 1000 := by
  unfold xsR at h
  split at h
  · rename_i hv
    obtain ⟨w', a', b', c', rfl, rfl, rfl, rfl, h1, h2, _⟩ := xs_nat hv
    cases h
    rw [nints_length]; simp [xsL]; omega
  · cases h
/-- A row of one move. -/
def upd (w k : Nat) (by_ b : Int) (i : Nat) : Nat := if 0 ≤ (if k = 1 then (i : Int) + b else i - by_) ∧ (if k = 1 then (i : Int) + b else i - by_) ≤ (w : Int) - 1 then xorN (pw i) (pw (if k = 1 then (i : Int) + b else i - by_).toNat) else pw i
theorem upd_up {w k i a : Nat} (hk : k ≠ 1) (b : Int) (hi : i < w) : upd w k a b i = upRow a i := by
  unfold upd upRow
  simp only [if_neg hk]
  by_cases h : a ≤ i
  · rw [if_pos ⟨by omega, by omega⟩, if_pos h, show ((i : Int) - a).toNat = i - a by omega]; rfl
  · rw [if_neg (by omega), if_neg h, Nat.xor_zero]; rfl
theorem upd_down {w i b : Nat} (by_ : Int) (hi : i < w) : upd w 1 by_ b i = downRow w b i := by
  unfold upd downRow
  simp only [if_true]
  by_cases h : i + b < w
  · rw [if_pos ⟨by omega, by omega⟩, if_pos h, show ((i : Int) + b).toNat = i + b by omega]; rfl
  · rw [if_neg (by omega), if_neg h, Nat.xor_zero]; rfl
theorem map_congr {w : Nat} {f h : Nat → Nat} (e : ∀ i, i < w → f i = h i) : (List.range w).map f = (List.range w).map h := List.map_congr_left fun i hi => e i (List.mem_range.1 hi)
theorem upd_62 {w k i : Nat} {by_ b : Int} (hw : w ≤ 16) (hi : i < w) : upd w k by_ b i < 2 ^ 62 := by
  have h1 : pw i < 2 ^ 62 := pow_62' (by omega)
  have h2 : ∀ f : Int, (if 0 ≤ f ∧ f ≤ (w : Int) - 1 then xorN (pw i) (pw f.toNat) else pw i) < 2 ^ 62 := by
    intro f
    by_cases h : 0 ≤ f ∧ f ≤ (w : Int) - 1
    · rw [if_pos h]
      have hf : f.toNat ≤ 61 := by omega
      exact xorN_lt h1 (pow_62' hf)
    · rw [if_neg h]; exact h1
  exact h2 _

noncomputable def b52 : Code := Try.f52.body.getD .skip
noncomputable def B52_0 : Code := (bodyC (bodyC (sndC (fstC (sndC (sndC (sndC b52)))))))
noncomputable def K52_0 : List It := .lp B52_0 :: .blk 0 :: .code (sndC (sndC (sndC (sndC b52)))) :: []
theorem xl52_0 {fi : FI} {env : Env} {σ : St} : exI TT fi K52_0 env σ = exI TT fi (.code B52_0 :: K52_0) env σ := by unfold K52_0; exact xI_lp
noncomputable def R52_0_0 : List It := .code (sndC (sndC (sndC (sndC b52)))) :: []
theorem eK52_0_0 : exitA 0 K52_0 = some R52_0_0 := rfl
noncomputable def B52_1 : Code := (bodyC (bodyC (sndC (fstC (sndC (sndC (bodyC (fstC (sndC (sndC (bodyC (bodyC (sndC (fstC (sndC (sndC (sndC b52)))))))))))))))))
noncomputable def K52_1 : List It := .lp B52_1 :: .blk 2 :: .code (sndC (sndC (sndC (bodyC (fstC (sndC (sndC (bodyC (bodyC (sndC (fstC (sndC (sndC (sndC b52)))))))))))))) :: .blk 1 :: .code (sndC (sndC (sndC (bodyC (bodyC (sndC (fstC (sndC (sndC (sndC b52)))))))))) :: K52_0
theorem xl52_1 {fi : FI} {env : Env} {σ : St} : exI TT fi K52_1 env σ = exI TT fi (.code B52_1 :: K52_1) env σ := by unfold K52_1; exact xI_lp
noncomputable def R52_1_2 : List It := .code (sndC (sndC (sndC (bodyC (fstC (sndC (sndC (bodyC (bodyC (sndC (fstC (sndC (sndC (sndC b52)))))))))))))) :: .blk 1 :: .code (sndC (sndC (sndC (bodyC (bodyC (sndC (fstC (sndC (sndC (sndC b52)))))))))) :: K52_0
theorem eK52_1_2 : exitA 2 K52_1 = some R52_1_2 := rfl
noncomputable def R52_1_1 : List It := .code (sndC (sndC (sndC (bodyC (bodyC (sndC (fstC (sndC (sndC (sndC b52)))))))))) :: K52_0
theorem eK52_1_1 : exitA 1 K52_1 = some R52_1_1 := rfl
theorem eK52_1_0 : exitA 0 K52_1 = some R52_0_0 := rfl
theorem l52b (w : Nat) (hw1 : 1 ≤ w) (hw : w ≤ 16) (b by_ : Int) (hb : -16 ≤ b ∧ b ≤ 16) (hby : -16 ≤ by_ ∧ by_ ≤ 16) (k : Nat) (hk : k ≤ 2) (V L : AV) : ∀ (m i : Nat) (σ : St) (q : Nat), i + m = w → Row σ q (nints ((List.range i).map (upd w k by_ b))) →
    ∃ σ' q', exI TT (FI.of Try.f52 (TT.an 52)) K52_1 [(0, .int .i64 w), (2, .int .i64 b), (8, .ptr 0 0), (10, V), (11, .int .i64 k), (12, .int .i64 by_), (13, .sl q 0 i i), (36, L), (37, .int .i64 k), (42, .int .i64 w), (43, .int .i64 i)] σ =
      exI TT (FI.of Try.f52 (TT.an 52)) R52_1_2 [(0, .int .i64 w), (2, .int .i64 b), (8, .ptr 0 0), (10, V), (11, .int .i64 k), (12, .int .i64 by_), (13, .sl q' 0 w w), (36, L), (37, .int .i64 k), (42, .int .i64 w), (43, .int .i64 w), (44, .bool false)] σ' ∧ Row σ' q' (nints ((List.range w).map (upd w k by_ b))) ∧ σ.n ≤ σ'.n ∧ ∀ c, c ≠ q → c < σ.n → σ'.get c = σ.get c := by
  intro m
  induction m with
  | zero =>
    intro i σ q hi hr
    obtain rfl : i = w := by omega
    refine ⟨σ, q, ?_, hr, Nat.le_refl _, fun _ _ _ => rfl⟩
    rw [fi52]
    rw [xl52_1]
    simp only [B52_1, b52, Try.f52, Option.getD, fstC, sndC, bodyC, thnC, elsC]
    simp [xI_seq, xI_region, xI_ret, regA, regOps, runOps, opStep, wantedA, opA, evo, evos, calleeA, lk, nif_eq, putE, paramsE, valS, val2, keepE, restrict, finA, resA, binA, binInt, ofConst, ofConst1, loadA, TK.isAgg, asVar, unA, builtinA, lenOpA, lenA, ileb_cast, ileb_eq, ieqb_dec, indexAddrA, inB_dec, evPairs, storeA, AV.cellsOf, pairsOf, xI_nil, binBool, gcE, evOpt, xI_block, xI_loopH, xI_condM, xI_exitM, xI_skip, xI_blk, exitA, ty2, ty3, ty4, ty33, ty41, ty115, eK52_0_0, eK52_1_2, eK52_1_1, eK52_1_0]
  | succ m ih =>
    intro i σ q hi hr
    have hrl := hr.lt
    obtain ⟨σ1, ha, hr1, hn1, hu1⟩ := nints_append_row (x := upd w k by_ b i) ty33 ty2 hr (n := i) (by simp) (by omega)
    rw [show (List.range i).map (upd w k by_ b) ++ [upd w k by_ b i] = (List.range (i + 1)).map (upd w k by_ b) by simp [List.range_succ]] at hr1
    obtain ⟨σ', q', h1, h2, h3, h4⟩ := ih (i + 1) σ1 (σ.n + 1) (by omega) hr1
    refine ⟨σ', q', ?_, h2, by omega, fun c hc hcn => (h4 c (by omega) (by omega)).trans (hu1 c hc hcn)⟩
    have hlt : ¬ w ≤ i := by omega
    have hlt2 : i < w := by omega
    have hwr := wrapS (n := i) (by omega)
    have d1 : wrapA .i64 ((i : Int) - by_) = (i : Int) - by_ := wrapA_id (by omega) (by omega)
    have d2 : wrapA .i64 ((i : Int) + b) = (i : Int) + b := wrapA_id (by omega) (by omega)
    have d3 : wrapA .i64 ((w : Int) - 1) = (w : Int) - 1 := wrapA_id (by omega) (by omega)
    have e1 := sh_1 (b := i) (by omega)
    simp only [Int.natCast_add, show ((1 : Nat) : Int) = 1 from rfl] at h1
    by_cases hk1 : k = 1
    · have hk1' : (k : Int) = 1 := by omega
      have cR := c80 ((i : Int) + b) 0 ((w : Int) - 1) σ
      have hu : upd w k by_ b i = if 0 ≤ (i : Int) + b ∧ (i : Int) + b ≤ (w : Int) - 1 then xorN (pw i) (pw ((i : Int) + b).toNat) else pw i := by unfold upd; simp only [if_pos hk1]
      cases hc : inR ((i : Int) + b) 0 ((w : Int) - 1) with
      | true =>
        have hc2 := inR_iff.1 hc
        rw [hc] at cR
        rw [if_pos hc2] at hu
        obtain ⟨f, hf⟩ : ∃ f : Nat, (i : Int) + b = f := ⟨((i : Int) + b).toNat, by omega⟩
        rw [hf] at d2 cR hu
        simp only [Int.toNat_natCast] at hu
        have e2 := sh_1 (b := f) (by omega)
        have hpi := pow_62' (k := i) (by omega)
        have hpf := pow_62' (k := f) (by omega)
        have e3 := n_xor (a := pw i) (b := pw f) (lt_62 hpi) (lt_62 hpf)
        rw [hu] at ha
        subst hk1
        rw [fi52] at h1 ⊢
        rw [xl52_1]
        simp only [B52_1, b52, Try.f52, Option.getD, fstC, sndC, bodyC, thnC, elsC]
        simp [xI_seq, xI_region, xI_ret, regA, regOps, runOps, opStep, wantedA, opA, evo, evos, calleeA, lk, nif_eq, putE, paramsE, valS, val2, keepE, restrict, finA, resA, binA, binInt, ofConst, ofConst1, loadA, TK.isAgg, asVar, unA, builtinA, lenOpA, lenA, ileb_cast, ileb_eq, ieqb_dec, indexAddrA, inB_dec, evPairs, storeA, AV.cellsOf, pairsOf, xI_nil, binBool, gcE, evOpt, xI_block, xI_loopH, xI_condM, xI_exitM, xI_skip, xI_blk, exitA, ty2, ty3, ty4, ty33, ty41, ty115, eK52_0_0, eK52_1_2, eK52_1_1, eK52_1_0, hlt, hlt2, hwr, d1, hf, d2, d3, e1, cR, e2, e3, bs1, ha]
        exact h1
      | false =>
        rw [hc] at cR
        rw [if_neg (fun h => by rw [inR_iff.2 h] at hc; cases hc)] at hu
        rw [hu] at ha
        subst hk1
        rw [fi52] at h1 ⊢
        rw [xl52_1]
        simp only [B52_1, b52, Try.f52, Option.getD, fstC, sndC, bodyC, thnC, elsC]
        simp [xI_seq, xI_region, xI_ret, regA, regOps, runOps, opStep, wantedA, opA, evo, evos, calleeA, lk, nif_eq, putE, paramsE, valS, val2, keepE, restrict, finA, resA, binA, binInt, ofConst, ofConst1, loadA, TK.isAgg, asVar, unA, builtinA, lenOpA, lenA, ileb_cast, ileb_eq, ieqb_dec, indexAddrA, inB_dec, evPairs, storeA, AV.cellsOf, pairsOf, xI_nil, binBool, gcE, evOpt, xI_block, xI_loopH, xI_condM, xI_exitM, xI_skip, xI_blk, exitA, ty2, ty3, ty4, ty33, ty41, ty115, eK52_0_0, eK52_1_2, eK52_1_1, eK52_1_0, hlt, hlt2, hwr, d1, d2, d3, e1, cR, bs1, ha]
        exact h1
    · have hk1' : ¬ (k : Int) = 1 := by omega
      have cR := c80 ((i : Int) - by_) 0 ((w : Int) - 1) σ
      have hu : upd w k by_ b i = if 0 ≤ (i : Int) - by_ ∧ (i : Int) - by_ ≤ (w : Int) - 1 then xorN (pw i) (pw ((i : Int) - by_).toNat) else pw i := by unfold upd; simp only [if_neg hk1]
      cases hc : inR ((i : Int) - by_) 0 ((w : Int) - 1) with
      | true =>
        have hc2 := inR_iff.1 hc
        rw [hc] at cR
        rw [if_pos hc2] at hu
        obtain ⟨f, hf⟩ : ∃ f : Nat, (i : Int) - by_ = f := ⟨((i : Int) - by_).toNat, by omega⟩
        rw [hf] at d1 cR hu
        simp only [Int.toNat_natCast] at hu
        have e2 := sh_1 (b := f) (by omega)
        have hpi := pow_62' (k := i) (by omega)
        have hpf := pow_62' (k := f) (by omega)
        have e3 := n_xor (a := pw i) (b := pw f) (lt_62 hpi) (lt_62 hpf)
        rw [hu] at ha
        rw [fi52] at h1 ⊢
        rw [xl52_1]
        simp only [B52_1, b52, Try.f52, Option.getD, fstC, sndC, bodyC, thnC, elsC]
        simp [xI_seq, xI_region, xI_ret, regA, regOps, runOps, opStep, wantedA, opA, evo, evos, calleeA, lk, nif_eq, putE, paramsE, valS, val2, keepE, restrict, finA, resA, binA, binInt, ofConst, ofConst1, loadA, TK.isAgg, asVar, unA, builtinA, lenOpA, lenA, ileb_cast, ileb_eq, ieqb_dec, indexAddrA, inB_dec, evPairs, storeA, AV.cellsOf, pairsOf, xI_nil, binBool, gcE, evOpt, xI_block, xI_loopH, xI_condM, xI_exitM, xI_skip, xI_blk, exitA, ty2, ty3, ty4, ty33, ty41, ty115, eK52_0_0, eK52_1_2, eK52_1_1, eK52_1_0, hlt, hlt2, hwr, hf, d1, d3, e1, cR, e2, e3, bs1, ha, hk1, hk1']
        exact h1
      | false =>
        rw [hc] at cR
        rw [if_neg (fun h => by rw [inR_iff.2 h] at hc; cases hc)] at hu
        rw [hu] at ha
        rw [fi52] at h1 ⊢
        rw [xl52_1]
        simp only [B52_1, b52, Try.f52, Option.getD, fstC, sndC, bodyC, thnC, elsC]
        simp [xI_seq, xI_region, xI_ret, regA, regOps, runOps, opStep, wantedA, opA, evo, evos, calleeA, lk, nif_eq, putE, paramsE, valS, val2, keepE, restrict, finA, resA, binA, binInt, ofConst, ofConst1, loadA, TK.isAgg, asVar, unA, builtinA, lenOpA, lenA, ileb_cast, ileb_eq, ieqb_dec, indexAddrA, inB_dec, evPairs, storeA, AV.cellsOf, pairsOf, xI_nil, binBool, gcE, evOpt, xI_block, xI_loopH, xI_condM, xI_exitM, xI_skip, xI_blk, exitA, ty2, ty3, ty4, ty33, ty41, ty115, eK52_0_0, eK52_1_2, eK52_1_1, eK52_1_0, hlt, hlt2, hwr, d1, d3, e1, cR, bs1, ha, hk1, hk1']
        exact h1
/-- One of the three moves. -/
theorem l52a (w : Nat) (hw1 : 1 ≤ w) (hw : w ≤ 16) (b by_ : Int) (hb : -16 ≤ b ∧ b ≤ 16) (hby : -16 ≤ by_ ∧ by_ ≤ 16) (k : Nat) (hk : k ≤ 2) (L : List AV) (hL : L.length = 3) (hg : getCells L k 1 = some [.int .i64 by_]) (rows : List Nat) (hrows : ∀ r ∈ rows, r < 2 ^ 62) (hrl : rows.length = w) (σ : St) (q : Nat) (hq : 0 < q) (hr : Row σ q (nints rows)) (g0 : σ.get 0 = some ⟨[.int .i64 0, .nilS, .int .i64 0], 3, false⟩) :
    ∃ σ' q', exI TT (FI.of Try.f52 (TT.an 52)) K52_0 [(0, .int .i64 w), (2, .int .i64 b), (8, .ptr 0 0), (10, .sl q 0 w w), (36, .agg L), (37, .int .i64 k)] σ =
      exI TT (FI.of Try.f52 (TT.an 52)) K52_0 [(0, .int .i64 w), (2, .int .i64 b), (8, .ptr 0 0), (10, .sl q' 0 w w), (36, .agg L), (37, .int .i64 ((k : Int) + 1))] σ' ∧ 0 < q' ∧ Row σ' q' (nints (times rows ((List.range w).map (upd w k by_ b)))) ∧ σ'.get 0 = some ⟨[.int .i64 0, .nilS, .int .i64 0], 3, false⟩ := by
  have hql := hr.lt
  obtain ⟨σ1, h1⟩ : ∃ σ1, σ.push ⟨ints [], 1, false⟩ = σ1 := ⟨_, rfl⟩
  have n1 : σ1.n = σ.n + 1 := by subst h1; rfl
  have r1 : Row σ1 σ.n (nints ((List.range 0).map (upd w k by_ b))) := by subst h1; exact Row.push
  have hr1 : Row σ1 q (nints rows) := by subst h1; exact hr.pushed
  obtain ⟨σ2, q2, h2, r2, n2, u2⟩ := l52b w hw1 hw b by_ hb hby k hk (.sl q 0 w w) (.agg L) w 0 σ1 σ.n (by omega) r1
  have hr2 : Row σ2 q (nints rows) := hr1.keep n2 (u2 q (by omega) (by omega))
  obtain ⟨σ3, q3, c3, r3, o3, e3⟩ := r95 rows ((List.range w).map (upd w k by_ b)) hrows (by omega) (fun r hr => by
    obtain ⟨i, hi, rfl⟩ := List.mem_map.1 hr
    exact upd_62 hw (List.mem_range.1 hi)) (by simp; omega) σ2 (.sl q 0 w w) (.sl q2 0 w w) (IsL.of_row hr2 (by rw [nints_length, hrl])) (IsL.of_row r2 (by rw [nints_length]; simp))
  rw [show ((List.range w).map (upd w k by_ b)).length = w by simp] at c3
  have hg2 : σ2.get 0 = σ.get 0 := (u2 0 (by omega) (by omega)).trans (by subst h1; exact get_push_lt (by omega))
  refine ⟨σ3, q3, ?_, by omega, r3, by rw [o3.2 0 (by omega), hg2]; exact g0⟩
  have hlt : ¬ 3 ≤ k := by omega
  have hlt2 : (k : Int) < 3 := by omega
  have hlt3 : k < 3 := by omega
  have hwr := wrapS (n := k) (by omega)
  simp only [Int.natCast_zero, show ((0 : Nat) : Int) = 0 from rfl] at h2
  rw [fi52] at h2 ⊢
  conv => lhs; rw [xl52_0]; simp only [B52_0, b52, Try.f52, Option.getD, fstC, sndC, bodyC, thnC, elsC]
  simp [xI_seq, xI_region, xI_ret, regA, regOps, runOps, opStep, wantedA, opA, evo, evos, calleeA, lk, nif_eq, putE, paramsE, valS, val2, keepE, restrict, finA, resA, binA, binInt, ofConst, ofConst1, loadA, TK.isAgg, asVar, unA, builtinA, lenOpA, lenA, ileb_cast, ileb_eq, ieqb_dec, indexAddrA, inB_dec, evPairs, storeA, AV.cellsOf, pairsOf, xI_nil, binBool, gcE, evOpt, xI_block, xI_loopH, xI_condM, xI_exitM, xI_skip, xI_blk, exitA, ty2, ty3, ty4, ty33, ty41, ty115, eK52_0_0, eK52_1_2, eK52_1_1, eK52_1_0, indexA, partA, ty115, ty2, hL, hg, hlt, hlt2, hlt3, hwr, bn0, h1]
  refine h2.trans ?_
  simp only [R52_1_2, b52, Try.f52, Option.getD, fstC, sndC, bodyC, thnC, elsC]
  simp [xI_seq, xI_region, xI_ret, regA, regOps, runOps, opStep, wantedA, opA, evo, evos, calleeA, lk, nif_eq, putE, paramsE, valS, val2, keepE, restrict, finA, resA, binA, binInt, ofConst, ofConst1, loadA, TK.isAgg, asVar, unA, builtinA, lenOpA, lenA, ileb_cast, ileb_eq, ieqb_dec, indexAddrA, inB_dec, evPairs, storeA, AV.cellsOf, pairsOf, xI_nil, binBool, gcE, evOpt, xI_block, xI_loopH, xI_condM, xI_exitM, xI_skip, xI_blk, exitA, ty2, ty3, ty4, ty33, ty41, ty115, eK52_0_0, eK52_1_2, eK52_1_1, eK52_1_0, c3, hwr]

theorem build3 (σ : St) (x y z : Int) : buildSliceA TT σ 33 3 [(0, .int .i64 x), (1, .int .i64 y), (2, .int .i64 z)] = some (.sl σ.n 0 3 3, σ.push ⟨ints [x, y, z], 1, false⟩) := by
  simp [buildSliceA, ty33, ty2, fillA, repeatCells, putCells, AV.cellsOf, allOne, AV.one, ints]
theorem res0 {σ : St} {x y z : AV} {a b c : AV} (h : σ.get 0 = some ⟨[a, b, c], 3, false⟩) (ho : allOne [x, y, z] = true) : ∃ σ', storeCellsA σ 0 0 [x, y, z] = some σ' ∧ cellsAt σ' (.ptr 0 0) 3 = some [x, y, z] ∧ ∀ d l, 0 < d → Row σ d l → Row σ' d l := by
  refine ⟨σ.set 0 ⟨[x, y, z], 3, false⟩, ?_, ?_, fun d l hd hr => hr.keep (Nat.le_refl _) (get_set_ne (by omega))⟩
  · simp [storeCellsA, h, ho, putN, overN]
  · simp [cellsAt, get_set_eq h, getCells, takeN, dropN]
theorem times_62' {A B : List Nat} (h : ∀ r ∈ A, r < 2 ^ 62) : ∀ r ∈ times A B, r < 2 ^ 62 := times_62 h
theorem o52 (w a b c : Int) : FnM TT 52 [.int .i64 w, .int .i64 a, .int .i64 b, .int .i64 c] (xsR w a b c) := by
  obtain ⟨σ, hσ⟩ : ∃ σ, (⟨[], 0⟩ : St).push ⟨[.int .i64 0, .nilS, .int .i64 0], 3, false⟩ = σ := ⟨_, rfl⟩
  have g0 : σ.get 0 = some ⟨[.int .i64 0, .nilS, .int .i64 0], 3, false⟩ := by subst hσ; rfl
  have hn : σ.n = 1 := by subst hσ; rfl
  have hi := c80 w 1 16 σ
  obtain ⟨σ1, hσ1⟩ : ∃ σ1, σ.push ⟨ints [a, b, c], 1, false⟩ = σ1 := ⟨_, rfl⟩
  have g1 : σ1.get 0 = some ⟨[.int .i64 0, .nilS, .int .i64 0], 3, false⟩ := by subst hσ1; rw [get_push_lt (by omega)]; exact g0
  have n1 : σ1.n = 2 := by subst hσ1; rw [n_push, hn]
  have hgs : σ1.get 1 = some ⟨ints [a, b, c], 1, false⟩ := by
    subst hσ1
    have := get_push_same (σ := σ) (x := ⟨ints [a, b, c], 1, false⟩)
    rwa [hn] at this
  have e1 : callI TT 79 [.sl 1 0 3 3, .int .i64 0, .int .i64 w] σ1 = some (.bool (allR [a, b, c] 0 w), σ1) := v79 [a, b, c] 3 rfl (by decide) 0 w σ1 _ (mapO_cons (frzV_sl (l := [a, b, c]) hgs rfl (Nat.le_refl _)) rfl)
  rw [show allR [a, b, c] 0 w = (inR a 0 w && inR b 0 w && inR c 0 w) by simp [allR, Bool.and_assoc]] at e1
  cases hv : xsOk w a b c with
  | false =>
    rw [xsR_no hv]
    cases h1 : inR w 1 16 with
    | false =>
      rw [h1] at hi
      obtain ⟨σn, m1, m2, _⟩ := res0 (x := .int .i64 0) (y := .nilS) (z := .int .i64 0) g0 rfl
      refine FnM.mkN fn52 rfl md52 ⟨σn, ?_⟩
      rw [fi52]
      simp [xI_seq, xI_region, xI_ret, regA, regOps, runOps, opStep, wantedA, opA, evo, evos, calleeA, lk, nif_eq, putE, paramsE, valS, val2, keepE, restrict, finA, resA, binA, binInt, ofConst, ofConst1, loadA, TK.isAgg, asVar, unA, builtinA, lenOpA, lenA, ileb_cast, ileb_eq, ieqb_dec, indexAddrA, inB_dec, evPairs, storeA, AV.cellsOf, pairsOf, xI_nil, binBool, gcE, evOpt, xI_block, xI_loopH, xI_condM, xI_exitM, xI_skip, xI_blk, exitA, ty2, ty3, ty4, ty33, ty41, ty115, eK52_0_0, eK52_1_2, eK52_1_1, eK52_1_0, buildA, sizesOf, fillA, allOne, AV.one, ty2, ty33, ty41, hσ, hi, m1, m2]
    | true =>
      rw [h1] at hi
      have h2 : (inR a 0 w && inR b 0 w && inR c 0 w) = false := by simpa [xsOk, h1] using hv
      rw [h2] at e1
      obtain ⟨σn, m1, m2, _⟩ := res0 (x := .int .i64 0) (y := .nilS) (z := .int .i64 0) g1 rfl
      refine FnM.mkN fn52 rfl md52 ⟨σn, ?_⟩
      rw [fi52]
      simp [xI_seq, xI_region, xI_ret, regA, regOps, runOps, opStep, wantedA, opA, evo, evos, calleeA, lk, nif_eq, putE, paramsE, valS, val2, keepE, restrict, finA, resA, binA, binInt, ofConst, ofConst1, loadA, TK.isAgg, asVar, unA, builtinA, lenOpA, lenA, ileb_cast, ileb_eq, ieqb_dec, indexAddrA, inB_dec, evPairs, storeA, AV.cellsOf, pairsOf, xI_nil, binBool, gcE, evOpt, xI_block, xI_loopH, xI_condM, xI_exitM, xI_skip, xI_blk, exitA, ty2, ty3, ty4, ty33, ty41, ty115, eK52_0_0, eK52_1_2, eK52_1_1, eK52_1_0, buildA, sizesOf, fillA, allOne, AV.one, ty2, ty33, ty41, hσ, hi, build3, hn, hσ1, e1, m1, m2]
  | true =>
    have hv0 := hv
    simp only [xsOk, Bool.and_eq_true] at hv0
    rw [hv0.1] at hi
    rw [show (inR a 0 w && inR b 0 w && inR c 0 w) = true by rw [hv0.2.1.1, hv0.2.1.2, hv0.2.2]; rfl] at e1
    obtain ⟨w, a, b, c, rfl, rfl, rfl, rfl, hw1, hw, ha, hb, hc⟩ := xs_nat hv
    rw [xsR_yes hv]
    obtain ⟨b2, σ2, c2, r2, o2, e2⟩ := (s94 w (by omega)).row (σ := σ1) (args := [.int .i64 w]) rfl
    rw [nints_length, units_length] at c2
    have g2 : σ2.get 0 = some ⟨[.int .i64 0, .nilS, .int .i64 0], 3, false⟩ := by rw [o2.2 0 (by omega)]; exact g1
    have u62 : ∀ r ∈ units 0 w, r < 2 ^ 62 := units_62 w (by omega)
    let L : List AV := [.int .i64 a, .int .i64 (-(b : Int)), .int .i64 c]
    obtain ⟨σ3, q3, d3, p3, r3, g3⟩ := l52a w hw1 hw b a (by omega) (by omega) 0 (by decide) L rfl rfl (units 0 w) u62 (units_length 0 w) σ2 b2 (by omega) r2 g2
    have t3 := times_62 (B := (List.range w).map (upd w 0 a b)) u62
    obtain ⟨σ4, q4, d4, p4, r4, g4⟩ := l52a w hw1 hw b (-(b : Int)) (by omega) (by omega) 1 (by decide) L rfl rfl _ t3 (by simp [times_length]) σ3 q3 p3 r3 g3
    have t4 := times_62 (B := (List.range w).map (upd w 1 (-(b : Int)) b)) t3
    obtain ⟨σ5, q5, d5, p5, r5, g5⟩ := l52a w hw1 hw b c (by omega) (by omega) 2 (by decide) L rfl rfl _ t4 (by simp [times_length]) σ4 q4 p4 r4 g4
    rw [map_congr (f := upd w 0 a b) (fun i hi => upd_up (by decide) b hi), map_congr (f := upd w 1 (-(b : Int)) b) (fun i hi => upd_down _ hi), map_congr (f := upd w 2 c b) (fun i hi => upd_up (by decide) b hi), xorshift (by omega) a b c] at r5
    obtain ⟨σ6, m1, m2, m3⟩ := res0 (x := .int .i64 w) (y := .sl q5 0 w w) (z := .int .i64 1) g5 rfl
    have r6 := m3 q5 _ p5 r5
    obtain ⟨o, r6, _⟩ := r6
    have hend : exI TT (FI.of Try.f52 (TT.an 52)) K52_0 [(0, .int .i64 w), (2, .int .i64 b), (8, .ptr 0 0), (10, .sl q5 0 w w), (36, .agg L), (37, .int .i64 3)] σ5 = some (.tup [.agg [.int .i64 w, .sl q5 0 w w, .int .i64 1], .bool true], σ6) := by
      rw [fi52]
      rw [xl52_0]
      simp only [B52_0, b52, Try.f52, Option.getD, fstC, sndC, bodyC, thnC, elsC]
      simp [xI_seq, xI_region, xI_ret, regA, regOps, runOps, opStep, wantedA, opA, evo, evos, calleeA, lk, nif_eq, putE, paramsE, valS, val2, keepE, restrict, finA, resA, binA, binInt, ofConst, ofConst1, loadA, TK.isAgg, asVar, unA, builtinA, lenOpA, lenA, ileb_cast, ileb_eq, ieqb_dec, indexAddrA, inB_dec, evPairs, storeA, AV.cellsOf, pairsOf, xI_nil, binBool, gcE, evOpt, xI_block, xI_loopH, xI_condM, xI_exitM, xI_skip, xI_blk, exitA, ty2, ty3, ty4, ty33, ty41, ty115, eK52_0_0, eK52_1_2, eK52_1_1, eK52_1_0]
      simp only [R52_0_0, b52, Try.f52, Option.getD, fstC, sndC, bodyC, thnC, elsC]
      simp [xI_seq, xI_region, xI_ret, regA, regOps, runOps, opStep, wantedA, opA, evo, evos, calleeA, lk, nif_eq, putE, paramsE, valS, val2, keepE, restrict, finA, resA, binA, binInt, ofConst, ofConst1, loadA, TK.isAgg, asVar, unA, builtinA, lenOpA, lenA, ileb_cast, ileb_eq, ieqb_dec, indexAddrA, inB_dec, evPairs, storeA, AV.cellsOf, pairsOf, xI_nil, binBool, gcE, evOpt, xI_block, xI_loopH, xI_condM, xI_exitM, xI_skip, xI_blk, exitA, ty2, ty3, ty4, ty33, ty41, ty115, eK52_0_0, eK52_1_2, eK52_1_1, eK52_1_0, buildA, sizesOf, fillA, putCells, allOne, AV.one, ty2, ty33, ty41, m1, m2]
    have hall : exI TT (FI.of Try.f52 (TT.an 52)) K52_0 [(0, .int .i64 w), (2, .int .i64 b), (8, .ptr 0 0), (10, .sl b2 0 w w), (36, .agg L), (37, .int .i64 0)] σ2 = some (.tup [.agg [.int .i64 w, .sl q5 0 w w, .int .i64 1], .bool true], σ6) := by
      refine d3.trans (Eq.trans ?_ (d4.trans (Eq.trans ?_ (d5.trans (Eq.trans ?_ hend)))))
      all_goals rfl
    have hxl : (nints (xsL w a b c)).length = w := by rw [nints_length]; simp [xsL]
    refine FnM.mkS fn52 rfl md52 ⟨σ6, q5, o, ?_, r6⟩
    rw [hxl, ← hall, fi52]
    have hneg : wrapA .i64 (-(b : Int)) = -(b : Int) := wrapA_id (by omega) (by omega)
    have hb2 : b2 = 2 := by omega
    subst hb2
    simp [xI_seq, xI_region, xI_ret, regA, regOps, runOps, opStep, wantedA, opA, evo, evos, calleeA, lk, nif_eq, putE, paramsE, valS, val2, keepE, restrict, finA, resA, binA, binInt, ofConst, ofConst1, loadA, TK.isAgg, asVar, unA, builtinA, lenOpA, lenA, ileb_cast, ileb_eq, ieqb_dec, indexAddrA, inB_dec, evPairs, storeA, AV.cellsOf, pairsOf, xI_nil, binBool, gcE, evOpt, xI_block, xI_loopH, xI_condM, xI_exitM, xI_skip, xI_blk, exitA, ty2, ty3, ty4, ty33, ty41, ty115, eK52_0_0, eK52_1_2, eK52_1_1, eK52_1_0, buildA, sizesOf, fillA, putCells, repeatCells, allOne, AV.one, ty2, ty33, ty41, ty115, hσ, hi, build3, hn, hσ1, e1, c2, hneg]
    rfl

/-- A move up within a width. -/
def upN (n k w : Nat) : Nat := modN (shlN n k) (pw w)
theorem v93u (n k w : Nat) (hn : n < 65536) (hk : k ≤ 16) (hw : w ≤ 16) : FnV TT 93 [.int .i64 n, .int .i64 k, .int .i64 w] (.int .i64 (upN n k w : Nat)) := by
  refine FnV.mk fn93 rfl md93 ⟨⟨[], 0⟩, ?_⟩ (fun _ => rfl) rfl
  have hpk : 2 ^ k ≤ 65536 := pw_16 hk
  have hl : n * 2 ^ k ≤ 65535 * 65536 := Nat.mul_le_mul (by omega) hpk
  have hp := pw_16 hw
  have hpp := pw_pos w
  have u1 := n_wrapu (a := k) (by omega)
  have u2 := n_wrapu (a := w) (by omega)
  have s1 := sh_l (a := n) (b := k) (by omega) (by omega)
  have s2 := sh_1 (b := w) (by omega)
  have s3 : wrapA .i64 (((pw w : Nat) : Int) - 1) = ((subN (pw w) 1 : Nat) : Int) := by rw [pw_dec hw]; show _ = ((pw w - 1 : Nat) : Int); omega
  have s4 := n_and (a := shlN n k) (b := subN (pw w) 1) (by show n * 2 ^ k ≤ _; omega) (by show pw w - 1 ≤ _; omega)
  rw [show andN (shlN n k) (subN (pw w) 1) = upN n k w from Nat.and_two_pow_sub_one_eq_mod _ w] at s4
  have c1 : ¬ (k : Int) < 0 := by omega
  rw [fi93]
  simp [xI_seq, xI_region, xI_ret, regA, regOps, runOps, opStep, wantedA, opA, evo, evos, calleeA, lk, nif_eq, putE, paramsE, valS, val2, keepE, restrict, finA, resA, binA, binInt, ofConst, ofConst1, loadA, TK.isAgg, asVar, unA, builtinA, lenOpA, lenA, ileb_cast, ileb_eq, ieqb_dec, indexAddrA, inB_dec, evPairs, storeA, AV.cellsOf, pairsOf, xI_nil, binBool, gcE, evOpt, xI_block, xI_loopH, xI_condM, xI_exitM, xI_skip, xI_blk, exitA, ty2, ty73, u1, u2, s1, s2, s3, s4, c1, convA, ty73]
theorem v93d (n k w : Nat) (hn : n < 65536) (hk : k ≤ 16) (hk1 : 1 ≤ k) : FnV TT 93 [.int .i64 n, .int .i64 (-(k : Int)), .int .i64 w] (.int .i64 (shrN n k : Nat)) := by
  refine FnV.mk fn93 rfl md93 ⟨⟨[], 0⟩, ?_⟩ (fun _ => rfl) rfl
  have c1 : -(k : Int) < 0 := by omega
  have c2 : 0 < k := by omega
  have c3 : ¬ k = 0 := by omega
  have n1 : wrapA .i64 (k : Int) = k := n_wrap (by omega)
  have u1 := n_wrapu (a := k) (by omega)
  have s1 := sh_r (a := n) (b := k) (by omega)
  rw [fi93]
  simp [xI_seq, xI_region, xI_ret, regA, regOps, runOps, opStep, wantedA, opA, evo, evos, calleeA, lk, nif_eq, putE, paramsE, valS, val2, keepE, restrict, finA, resA, binA, binInt, ofConst, ofConst1, loadA, TK.isAgg, asVar, unA, builtinA, lenOpA, lenA, ileb_cast, ileb_eq, ieqb_dec, indexAddrA, inB_dec, evPairs, storeA, AV.cellsOf, pairsOf, xI_nil, binBool, gcE, evOpt, xI_block, xI_loopH, xI_condM, xI_exitM, xI_skip, xI_blk, exitA, ty2, ty73, u1, s1, n1, c1, c2, c3, convA, ty73]
/-- A move down, as the reference makes it. -/
def dnN (n k w : Nat) : Nat := if k = 0 then upN n 0 w else shrN n k
theorem dn_eq {n k w : Nat} (hn : n < 2 ^ w) : dnN n k w = n / 2 ^ k := by
  unfold dnN
  split
  · rename_i h; subst h
    show n * 2 ^ 0 % 2 ^ w = n / 2 ^ 0
    rw [Nat.pow_zero, Nat.mul_one, Nat.div_one, Nat.mod_eq_of_lt hn]
  · rfl
theorem v93n (n k w : Nat) (hn : n < 65536) (hk : k ≤ 16) (hw : w ≤ 16) : FnV TT 93 [.int .i64 n, .int .i64 (-(k : Int)), .int .i64 w] (.int .i64 (dnN n k w : Nat)) := by
  by_cases h : k = 0
  · subst h
    rw [show dnN n 0 w = upN n 0 w by simp [dnN]]
    exact v93u n 0 w hn (by decide) hw
  · rw [show dnN n k w = shrN n k by simp [dnN, h]]
    exact v93d n k w hn hk (by omega)

open Go.Wd
noncomputable def b51 : Code := Try.f51.body.getD .skip
noncomputable def B51_0 : Code := (bodyC (bodyC (sndC (fstC (sndC (sndC (sndC b51)))))))
noncomputable def K51_0 : List It := .lp B51_0 :: .blk 0 :: .code (sndC (sndC (sndC (sndC b51)))) :: []
theorem xl51_0 {fi : FI} {env : Env} {σ : St} : exI TT fi K51_0 env σ = exI TT fi (.code B51_0 :: K51_0) env σ := by unfold K51_0; exact xI_lp
noncomputable def R51_0_0 : List It := .code (sndC (sndC (sndC (sndC b51)))) :: []
theorem eK51_0_0 : exitA 0 K51_0 = some R51_0_0 := rfl
noncomputable def B51_1 : Code := (bodyC (bodyC (sndC (sndC (sndC (sndC (sndC (bodyC (fstC (sndC (bodyC (bodyC (sndC (fstC (sndC (sndC (sndC b51)))))))))))))))))
noncomputable def K51_1 : List It := .lp B51_1 :: .blk 2 :: .blk 1 :: .code (sndC (sndC (bodyC (bodyC (sndC (fstC (sndC (sndC (sndC b51))))))))) :: K51_0
theorem xl51_1 {fi : FI} {env : Env} {σ : St} : exI TT fi K51_1 env σ = exI TT fi (.code B51_1 :: K51_1) env σ := by unfold K51_1; exact xI_lp
noncomputable def R51_1_2 : List It := .blk 1 :: .code (sndC (sndC (bodyC (bodyC (sndC (fstC (sndC (sndC (sndC b51))))))))) :: K51_0
theorem eK51_1_2 : exitA 2 K51_1 = some R51_1_2 := rfl
noncomputable def R51_1_1 : List It := .code (sndC (sndC (bodyC (bodyC (sndC (fstC (sndC (sndC (sndC b51))))))))) :: K51_0
theorem eK51_1_1 : exitA 1 K51_1 = some R51_1_1 := rfl
theorem eK51_1_0 : exitA 0 K51_1 = some R51_0_0 := rfl
/-- The rows while column k is told, up to row i. -/
def xin (w a b c k i : Nat) : List Nat := (List.range w).map fun j => if j < i then bitRow w a b c j (k + 1) else bitRow w a b c j k
theorem xin_zero (w a b c k : Nat) : xin w a b c k 0 = (List.range w).map fun j => bitRow w a b c j k := by
  unfold xin; exact List.map_congr_left fun j _ => by simp
theorem xin_full (w a b c k : Nat) : xin w a b c k w = (List.range w).map fun j => bitRow w a b c j (k + 1) := by
  unfold xin; exact List.map_congr_left fun j hj => by rw [if_pos (List.mem_range.1 hj)]
theorem xin_get {w a b c k i : Nat} (h : i < w) : (xin w a b c k i)[i]? = some (bitRow w a b c i k) := by simp [xin, h]
theorem xin_set {w a b c k i : Nat} (h : i < w) : (xin w a b c k i).set i (bitRow w a b c i (k + 1)) = xin w a b c k (i + 1) := by
  refine List.ext_getElem? fun j => ?_
  rw [List.getElem?_set]
  simp only [xin, List.length_map, List.length_range]
  by_cases hj : i = j
  · subst hj; simp [h]
  · rw [if_neg hj]
    by_cases hjw : j < w
    · simp only [List.getElem?_map, List.getElem?_range hjw, Option.map_some]
      congr 1
      by_cases h1 : j < i
      · rw [if_pos h1, if_pos (by omega)]
      · rw [if_neg h1, if_neg (by omega)]
    · simp [hjw]
theorem bit_16 {w a b c i k : Nat} (h : k ≤ 16) : bitRow w a b c i k < 65536 := Nat.lt_of_lt_of_le (bitRow_lt w a b c i k) (Nat.pow_le_pow_right (by decide) h)
theorem l51b (w a b c k : Nat) (hw : w ≤ 16) (hk : k < w) (x : Nat) (hx : x = shifts w a b c (2 ^ k)) (hxl : x < 2 ^ w) (q2 : St → Prop) : ∀ (m i : Nat) (σ : St), i + m = w → σ.get 2 = some ⟨[.int .i64 w, .sl 1 0 w w, .int .i64 1], 3, false⟩ → Row σ 1 (nints (xin w a b c k i)) →
    ∃ σ', exI TT (FI.of Try.f51 (TT.an 51)) K51_1 [(0, .int .i64 w), (1, .int .i64 a), (2, .int .i64 b), (3, .int .i64 c), (8, .ptr 0 0), (10, .ptr 2 0), (11, .int .i64 k), (12, .int .i64 x), (13, .int .i64 i)] σ =
      exI TT (FI.of Try.f51 (TT.an 51)) R51_1_2 [(0, .int .i64 w), (1, .int .i64 a), (2, .int .i64 b), (3, .int .i64 c), (8, .ptr 0 0), (10, .ptr 2 0), (11, .int .i64 k), (12, .int .i64 x), (13, .int .i64 w), (69, .bool false)] σ' ∧ Row σ' 1 (nints (xin w a b c k w)) ∧ σ'.n = σ.n ∧ ∀ d, d ≠ 1 → σ'.get d = σ.get d := by
  intro m
  induction m with
  | zero =>
    intro i σ hi h2 hr
    obtain rfl : i = w := by omega
    refine ⟨σ, ?_, hr, rfl, fun _ _ => rfl⟩
    rw [fi51]
    rw [xl51_1]
    simp only [B51_1, b51, Try.f51, Option.getD, fstC, sndC, bodyC, thnC, elsC]
    simp [xI_seq, xI_region, xI_ret, regA, regOps, runOps, opStep, wantedA, opA, evo, evos, calleeA, lk, nif_eq, putE, paramsE, valS, val2, keepE, restrict, finA, resA, binA, binInt, ofConst, ofConst1, loadA, TK.isAgg, asVar, unA, builtinA, lenOpA, lenA, ileb_cast, ileb_eq, ieqb_dec, indexAddrA, inB_dec, evPairs, storeA, AV.cellsOf, pairsOf, xI_nil, binBool, gcE, evOpt, xI_block, xI_loopH, xI_condM, xI_exitM, xI_skip, xI_blk, exitA, ty2, ty4, ty33, ty41, ty73, eK51_0_0, eK51_1_2, eK51_1_1, eK51_1_0]
  | succ m ih =>
    intro i σ hi h2 hr
    have hiw : i < w := by omega
    have hw16 : 2 ^ w ≤ 65536 := pw_16 hw
    have hrd := hr.read (nints_get (xin_get hiw))
    have hc : cellsAt σ (.ptr 2 1) 1 = some [.sl 1 0 w w] := by simp [cellsAt, h2, getCells, takeN, dropN]
    have hb0 : bitRow w a b c i k < 65536 := bit_16 (by omega)
    have u1 := n_wrapu (a := i) (by omega)
    have u2 := n_wrapu (a := k) (by omega)
    have s1 := sh_r (a := x) (b := i) (by omega)
    have hsl : shrN x i ≤ x := Nat.div_le_self _ _
    have s2 := n_and1 (a := shrN x i) (by omega)
    have hm := mod_le (shrN x i)
    have hpk : 2 ^ k ≤ 65536 := pw_16 (by omega)
    have hml : modN (shrN x i) 2 * 2 ^ k ≤ 1 * 65536 := Nat.mul_le_mul hm hpk
    have s3 := sh_l (a := modN (shrN x i) 2) (b := k) (by omega) (by omega)
    have s4 := n_or (a := bitRow w a b c i k) (b := shlN (modN (shrN x i) 2) k) (by omega) (by show modN (shrN x i) 2 * 2 ^ k ≤ _; omega)
    rw [show orN (bitRow w a b c i k) (shlN (modN (shrN x i) 2) k) = bitRow w a b c i (k + 1) by rw [hx]; rfl] at s4
    obtain ⟨σ1, hst, hr1, hn1, hu1⟩ := store_row (i := i) (x := (bitRow w a b c i (k + 1) : Nat)) hr (by rw [nints_length]; simp [xin]; omega)
    rw [nints_set, xin_set hiw] at hr1
    obtain ⟨σ', e1, e2, e3, e4⟩ := ih (i + 1) σ1 (by omega) ((hu1 2 (by decide)).trans h2) hr1
    refine ⟨σ', ?_, e2, e3.trans hn1, fun d hd => (e4 d hd).trans (hu1 d hd)⟩
    have hlt : ¬ w ≤ i := by omega
    have hwr := wrapS (n := i) (by omega)
    simp only [Int.natCast_add, show ((1 : Nat) : Int) = 1 from rfl] at e1
    generalize bitRow w a b c i (k + 1) = z at *
    generalize bitRow w a b c i k = z0 at *
    rw [fi51] at e1 ⊢
    rw [xl51_1]
    simp only [B51_1, b51, Try.f51, Option.getD, fstC, sndC, bodyC, thnC, elsC]
    simp [xI_seq, xI_region, xI_ret, regA, regOps, runOps, opStep, wantedA, opA, evo, evos, calleeA, lk, nif_eq, putE, paramsE, valS, val2, keepE, restrict, finA, resA, binA, binInt, ofConst, ofConst1, loadA, TK.isAgg, asVar, unA, builtinA, lenOpA, lenA, ileb_cast, ileb_eq, ieqb_dec, indexAddrA, inB_dec, evPairs, storeA, AV.cellsOf, pairsOf, xI_nil, binBool, gcE, evOpt, xI_block, xI_loopH, xI_condM, xI_exitM, xI_skip, xI_blk, exitA, ty2, ty4, ty33, ty41, ty73, eK51_0_0, eK51_1_2, eK51_1_1, eK51_1_0, fieldAddrA, allOne, AV.one, ty2, ty33, ty41, hlt, hiw, hwr, hc, hrd, u1, u2, s1, s2, s3, s4, hst, convA, ty73]
    exact e1
theorem shifts_eq {w a b c n : Nat} (hn : n < 2 ^ w) : xorN (xorN (xorN n (upN n a w)) (dnN (xorN n (upN n a w)) b w)) (upN (xorN (xorN n (upN n a w)) (dnN (xorN n (upN n a w)) b w)) c w) = shifts w a b c n := by
  have h1 : xorN n (upN n a w) < 2 ^ w := xor_up_lt a hn
  rw [dn_eq h1]; rfl
theorem l51 (w a b c : Nat) (hw : w ≤ 16) (ha : a ≤ w) (hb : b ≤ w) (hc : c ≤ w) : ∀ (m k : Nat) (σ : St), k + m = w → σ.get 0 = some ⟨[.int .i64 0, .nilS, .int .i64 0], 3, false⟩ → σ.get 2 = some ⟨[.int .i64 w, .sl 1 0 w w, .int .i64 1], 3, false⟩ → Row σ 1 (nints ((List.range w).map fun j => bitRow w a b c j k)) →
    ∃ σ', exI TT (FI.of Try.f51 (TT.an 51)) K51_0 [(0, .int .i64 w), (1, .int .i64 a), (2, .int .i64 b), (3, .int .i64 c), (8, .ptr 0 0), (10, .ptr 2 0), (11, .int .i64 k)] σ = some (.tup [.agg [.int .i64 w, .sl 1 0 w w, .int .i64 1], .bool true], σ') ∧ Row σ' 1 (nints (xsL w a b c)) := by
  intro m
  induction m with
  | zero =>
    intro k σ hk g0 g2 hr
    obtain rfl : k = w := by omega
    obtain ⟨σ', m1, m2, m3⟩ := res0 (x := .int .i64 k) (y := .sl 1 0 k k) (z := .int .i64 1) g0 rfl
    have hall : cellsAt σ (.ptr 2 0) 3 = some [.int .i64 k, .sl 1 0 k k, .int .i64 1] := by simp [cellsAt, g2, getCells, takeN, dropN]
    refine ⟨σ', ?_, m3 1 _ (by decide) hr⟩
    rw [fi51]
    rw [xl51_0]
    simp only [B51_0, b51, Try.f51, Option.getD, fstC, sndC, bodyC, thnC, elsC]
    simp [xI_seq, xI_region, xI_ret, regA, regOps, runOps, opStep, wantedA, opA, evo, evos, calleeA, lk, nif_eq, putE, paramsE, valS, val2, keepE, restrict, finA, resA, binA, binInt, ofConst, ofConst1, loadA, TK.isAgg, asVar, unA, builtinA, lenOpA, lenA, ileb_cast, ileb_eq, ieqb_dec, indexAddrA, inB_dec, evPairs, storeA, AV.cellsOf, pairsOf, xI_nil, binBool, gcE, evOpt, xI_block, xI_loopH, xI_condM, xI_exitM, xI_skip, xI_blk, exitA, ty2, ty4, ty33, ty41, ty73, eK51_0_0, eK51_1_2, eK51_1_1, eK51_1_0]
    simp only [R51_0_0, b51, Try.f51, Option.getD, fstC, sndC, bodyC, thnC, elsC]
    simp [xI_seq, xI_region, xI_ret, regA, regOps, runOps, opStep, wantedA, opA, evo, evos, calleeA, lk, nif_eq, putE, paramsE, valS, val2, keepE, restrict, finA, resA, binA, binInt, ofConst, ofConst1, loadA, TK.isAgg, asVar, unA, builtinA, lenOpA, lenA, ileb_cast, ileb_eq, ieqb_dec, indexAddrA, inB_dec, evPairs, storeA, AV.cellsOf, pairsOf, xI_nil, binBool, gcE, evOpt, xI_block, xI_loopH, xI_condM, xI_exitM, xI_skip, xI_blk, exitA, ty2, ty4, ty33, ty41, ty73, eK51_0_0, eK51_1_2, eK51_1_1, eK51_1_0, ty41, hall, m1, m2]
  | succ m ih =>
    intro k σ hk g0 g2 hr
    have hkw : k < w := by omega
    have hw16 : 2 ^ w ≤ 65536 := pw_16 hw
    have hp0 : pw k < 2 ^ w := Nat.pow_lt_pow_right (by decide) hkw
    obtain ⟨y1, hy1⟩ : ∃ y, y = upN (pw k) a w := ⟨_, rfl⟩
    have c1 : ∀ σ, callI TT 93 [.int .i64 (pw k : Nat), .int .i64 a, .int .i64 w] σ = some (.int .i64 y1, σ) := fun σ => by rw [hy1]; exact v93u (pw k) a w (by omega) (by omega) hw σ _ rfl
    have ly1 : y1 < 2 ^ w := by rw [hy1]; exact Nat.mod_lt _ (pw_pos w)
    obtain ⟨x1, hx1⟩ : ∃ x, x = xorN (pw k) y1 := ⟨_, rfl⟩
    have lx1 : x1 < 2 ^ w := by rw [hx1]; exact Nat.xor_lt_two_pow hp0 ly1
    have d1 := n_xor (a := pw k) (b := y1) (by omega) (by omega)
    rw [← hx1] at d1
    obtain ⟨y2, hy2⟩ : ∃ y, y = dnN x1 b w := ⟨_, rfl⟩
    have c2 : ∀ σ, callI TT 93 [.int .i64 x1, .int .i64 (-(b : Int)), .int .i64 w] σ = some (.int .i64 y2, σ) := fun σ => by rw [hy2]; exact v93n x1 b w (by omega) (by omega) hw σ _ rfl
    have ly2 : y2 < 2 ^ w := by rw [hy2, dn_eq lx1]; exact Nat.lt_of_le_of_lt (Nat.div_le_self _ _) lx1
    obtain ⟨x2, hx2⟩ : ∃ x, x = xorN x1 y2 := ⟨_, rfl⟩
    have lx2 : x2 < 2 ^ w := by rw [hx2]; exact Nat.xor_lt_two_pow lx1 ly2
    have d2 := n_xor (a := x1) (b := y2) (by omega) (by omega)
    rw [← hx2] at d2
    obtain ⟨y3, hy3⟩ : ∃ y, y = upN x2 c w := ⟨_, rfl⟩
    have c3 : ∀ σ, callI TT 93 [.int .i64 x2, .int .i64 c, .int .i64 w] σ = some (.int .i64 y3, σ) := fun σ => by rw [hy3]; exact v93u x2 c w (by omega) (by omega) hw σ _ rfl
    have ly3 : y3 < 2 ^ w := by rw [hy3]; exact Nat.mod_lt _ (pw_pos w)
    obtain ⟨x3, hx3⟩ : ∃ x, x = xorN x2 y3 := ⟨_, rfl⟩
    have lx3 : x3 < 2 ^ w := by rw [hx3]; exact Nat.xor_lt_two_pow lx2 ly3
    have d3 := n_xor (a := x2) (b := y3) (by omega) (by omega)
    rw [← hx3] at d3
    have hfin : x3 = shifts w a b c (2 ^ k) := by rw [hx3, hy3, hx2, hy2, hx1, hy1]; exact shifts_eq hp0
    rw [← xin_zero] at hr
    obtain ⟨σ1, e1, e2, e3, e4⟩ := l51b w a b c k hw hkw x3 hfin lx3 (fun _ => True) w 0 σ (by omega) g2 hr
    rw [xin_full] at e2
    obtain ⟨σ', e5, e6⟩ := ih (k + 1) σ1 (by omega) ((e4 0 (by decide)).trans g0) ((e4 2 (by decide)).trans g2) e2
    refine ⟨σ', ?_, e6⟩
    have hlt : ¬ w ≤ k := by omega
    have hwr := wrapS (n := k) (by omega)
    have u1 := n_wrapu (a := k) (by omega)
    have s1 := sh_1 (b := k) (by omega)
    have hneg : wrapA .i64 (-(b : Int)) = -(b : Int) := wrapA_id (by omega) (by omega)
    simp only [Int.natCast_add, Int.natCast_zero, show ((1 : Nat) : Int) = 1 from rfl, show ((0 : Nat) : Int) = 0 from rfl] at e1 e5
    rw [fi51] at e1 e5 ⊢
    rw [xl51_0]
    simp only [B51_0, b51, Try.f51, Option.getD, fstC, sndC, bodyC, thnC, elsC]
    simp [xI_seq, xI_region, xI_ret, regA, regOps, runOps, opStep, wantedA, opA, evo, evos, calleeA, lk, nif_eq, putE, paramsE, valS, val2, keepE, restrict, finA, resA, binA, binInt, ofConst, ofConst1, loadA, TK.isAgg, asVar, unA, builtinA, lenOpA, lenA, ileb_cast, ileb_eq, ieqb_dec, indexAddrA, inB_dec, evPairs, storeA, AV.cellsOf, pairsOf, xI_nil, binBool, gcE, evOpt, xI_block, xI_loopH, xI_condM, xI_exitM, xI_skip, xI_blk, exitA, ty2, ty4, ty33, ty41, ty73, eK51_0_0, eK51_1_2, eK51_1_1, eK51_1_0, hlt, hkw, u1, s1, c1, d1, hneg, c2, d2, c3, d3, convA, ty2, ty73]
    refine e1.trans ?_
    simp only [R51_1_2, b51, Try.f51, Option.getD, fstC, sndC, bodyC, thnC, elsC]
    simp [xI_seq, xI_region, xI_ret, regA, regOps, runOps, opStep, wantedA, opA, evo, evos, calleeA, lk, nif_eq, putE, paramsE, valS, val2, keepE, restrict, finA, resA, binA, binInt, ofConst, ofConst1, loadA, TK.isAgg, asVar, unA, builtinA, lenOpA, lenA, ileb_cast, ileb_eq, ieqb_dec, indexAddrA, inB_dec, evPairs, storeA, AV.cellsOf, pairsOf, xI_nil, binBool, gcE, evOpt, xI_block, xI_loopH, xI_condM, xI_exitM, xI_skip, xI_blk, exitA, ty2, ty4, ty33, ty41, ty73, eK51_0_0, eK51_1_2, eK51_1_1, eK51_1_0, hwr]
    exact e5
theorem o51 (w a b c : Int) : FnM TT 51 [.int .i64 w, .int .i64 a, .int .i64 b, .int .i64 c] (xsR w a b c) := by
  obtain ⟨σ, hσ⟩ : ∃ σ, (⟨[], 0⟩ : St).push ⟨[.int .i64 0, .nilS, .int .i64 0], 3, false⟩ = σ := ⟨_, rfl⟩
  have g0 : σ.get 0 = some ⟨[.int .i64 0, .nilS, .int .i64 0], 3, false⟩ := by subst hσ; rfl
  have hn : σ.n = 1 := by subst hσ; rfl
  have i1 := c88 w 1 16 σ
  have i2 := c88 a 0 w σ
  have i3 := c88 b 0 w σ
  have i4 := c88 c 0 w σ
  cases hv : xsOk w a b c with
  | false =>
    rw [xsR_no hv]
    obtain ⟨σn, m1, m2, _⟩ := res0 (x := .int .i64 0) (y := .nilS) (z := .int .i64 0) g0 rfl
    refine FnM.mkN fn51 rfl md51 ⟨σn, ?_⟩
    cases h1 : inR w 1 16 with
    | false =>
      rw [h1] at i1
      rw [fi51]
      simp [xI_seq, xI_region, xI_ret, regA, regOps, runOps, opStep, wantedA, opA, evo, evos, calleeA, lk, nif_eq, putE, paramsE, valS, val2, keepE, restrict, finA, resA, binA, binInt, ofConst, ofConst1, loadA, TK.isAgg, asVar, unA, builtinA, lenOpA, lenA, ileb_cast, ileb_eq, ieqb_dec, indexAddrA, inB_dec, evPairs, storeA, AV.cellsOf, pairsOf, xI_nil, binBool, gcE, evOpt, xI_block, xI_loopH, xI_condM, xI_exitM, xI_skip, xI_blk, exitA, ty2, ty4, ty33, ty41, ty73, eK51_0_0, eK51_1_2, eK51_1_1, eK51_1_0, buildA, sizesOf, fillA, allOne, AV.one, ty2, ty33, ty41, hσ, i1, m1, m2]
    | true =>
      rw [h1] at i1
      cases h2 : inR a 0 w with
      | false =>
        rw [h2] at i2
        rw [fi51]
        simp [xI_seq, xI_region, xI_ret, regA, regOps, runOps, opStep, wantedA, opA, evo, evos, calleeA, lk, nif_eq, putE, paramsE, valS, val2, keepE, restrict, finA, resA, binA, binInt, ofConst, ofConst1, loadA, TK.isAgg, asVar, unA, builtinA, lenOpA, lenA, ileb_cast, ileb_eq, ieqb_dec, indexAddrA, inB_dec, evPairs, storeA, AV.cellsOf, pairsOf, xI_nil, binBool, gcE, evOpt, xI_block, xI_loopH, xI_condM, xI_exitM, xI_skip, xI_blk, exitA, ty2, ty4, ty33, ty41, ty73, eK51_0_0, eK51_1_2, eK51_1_1, eK51_1_0, buildA, sizesOf, fillA, allOne, AV.one, ty2, ty33, ty41, hσ, i1, i2, m1, m2]
      | true =>
        rw [h2] at i2
        cases h3 : inR b 0 w with
        | false =>
          rw [h3] at i3
          rw [fi51]
          simp [xI_seq, xI_region, xI_ret, regA, regOps, runOps, opStep, wantedA, opA, evo, evos, calleeA, lk, nif_eq, putE, paramsE, valS, val2, keepE, restrict, finA, resA, binA, binInt, ofConst, ofConst1, loadA, TK.isAgg, asVar, unA, builtinA, lenOpA, lenA, ileb_cast, ileb_eq, ieqb_dec, indexAddrA, inB_dec, evPairs, storeA, AV.cellsOf, pairsOf, xI_nil, binBool, gcE, evOpt, xI_block, xI_loopH, xI_condM, xI_exitM, xI_skip, xI_blk, exitA, ty2, ty4, ty33, ty41, ty73, eK51_0_0, eK51_1_2, eK51_1_1, eK51_1_0, buildA, sizesOf, fillA, allOne, AV.one, ty2, ty33, ty41, hσ, i1, i2, i3, m1, m2]
        | true =>
          rw [h3] at i3
          have h4 : inR c 0 w = false := by simpa [xsOk, h1, h2, h3] using hv
          rw [h4] at i4
          rw [fi51]
          simp [xI_seq, xI_region, xI_ret, regA, regOps, runOps, opStep, wantedA, opA, evo, evos, calleeA, lk, nif_eq, putE, paramsE, valS, val2, keepE, restrict, finA, resA, binA, binInt, ofConst, ofConst1, loadA, TK.isAgg, asVar, unA, builtinA, lenOpA, lenA, ileb_cast, ileb_eq, ieqb_dec, indexAddrA, inB_dec, evPairs, storeA, AV.cellsOf, pairsOf, xI_nil, binBool, gcE, evOpt, xI_block, xI_loopH, xI_condM, xI_exitM, xI_skip, xI_blk, exitA, ty2, ty4, ty33, ty41, ty73, eK51_0_0, eK51_1_2, eK51_1_1, eK51_1_0, buildA, sizesOf, fillA, allOne, AV.one, ty2, ty33, ty41, hσ, i1, i2, i3, i4, m1, m2]
  | true =>
    have hv0 := hv
    simp only [xsOk, Bool.and_eq_true] at hv0
    rw [hv0.1] at i1
    rw [hv0.2.1.1] at i2
    rw [hv0.2.1.2] at i3
    rw [hv0.2.2] at i4
    obtain ⟨w, a, b, c, rfl, rfl, rfl, rfl, hw1, hw, ha, hb, hc⟩ := xs_nat hv
    rw [xsR_yes hv]
    obtain ⟨σ1, hσ1⟩ : ∃ σ1, σ.push ⟨ints (List.replicate w 0), 1, false⟩ = σ1 := ⟨_, rfl⟩
    have n1 : σ1.n = 2 := by subst hσ1; rw [n_push, hn]
    have hm := mkI σ w (by omega)
    rw [hσ1, hn] at hm
    have r1 : Row σ1 1 (nints ((List.range w).map fun j => bitRow w a b c j 0)) := by
      rw [show nints ((List.range w).map fun j => bitRow w a b c j 0) = List.replicate w 0 by
        refine List.ext_getElem? fun j => ?_
        by_cases hj : j < w
        · simp [nints, List.getElem?_replicate, hj, bitRow]
        · simp [nints, List.getElem?_replicate, hj]]
      subst hσ1
      have := Row.push (σ := σ) (l := List.replicate w 0) (o := false)
      rwa [hn] at this
    obtain ⟨σ2, s2, n2, q2, o2⟩ := boxed σ1 (.int .i64 0) .nilS (.int .i64 0) (.int .i64 w) (.sl 1 0 w w) (.int .i64 1) rfl
    rw [n1] at s2 q2
    have g2 : σ2.get 2 = some ⟨[.int .i64 w, .sl 1 0 w w, .int .i64 1], 3, false⟩ := by
      have s2' := s2
      simp only [storeCellsA, n1 ▸ get_push_same (σ := σ1), allOne, AV.one, putN, overN, Bool.and_self] at s2'
      cases s2'
      rw [get_set_eq (n1 ▸ get_push_same (σ := σ1))]
    have g02 : σ2.get 0 = some ⟨[.int .i64 0, .nilS, .int .i64 0], 3, false⟩ := by rw [o2.2 0 (by omega)]; subst hσ1; rw [get_push_lt (by omega)]; exact g0
    obtain ⟨σ', e1, e2⟩ := l51 w a b c hw ha hb hc w 0 σ2 (by omega) g02 g2 (r1.old o2)
    obtain ⟨o, e2, _⟩ := e2
    have hxl : (nints (xsL w a b c)).length = w := by rw [nints_length]; simp [xsL]
    refine FnM.mkS fn51 rfl md51 ⟨σ', 1, o, ?_, e2⟩
    simp only [Int.natCast_zero, show ((0 : Nat) : Int) = 0 from rfl] at e1
    rw [hxl, ← e1, fi51]
    simp [xI_seq, xI_region, xI_ret, regA, regOps, runOps, opStep, wantedA, opA, evo, evos, calleeA, lk, nif_eq, putE, paramsE, valS, val2, keepE, restrict, finA, resA, binA, binInt, ofConst, ofConst1, loadA, TK.isAgg, asVar, unA, builtinA, lenOpA, lenA, ileb_cast, ileb_eq, ieqb_dec, indexAddrA, inB_dec, evPairs, storeA, AV.cellsOf, pairsOf, xI_nil, binBool, gcE, evOpt, xI_block, xI_loopH, xI_condM, xI_exitM, xI_skip, xI_blk, exitA, ty2, ty4, ty33, ty41, ty73, eK51_0_0, eK51_1_2, eK51_1_1, eK51_1_0, buildA, sizesOf, fillA, putCells, allOne, AV.one, ty2, ty33, ty41, hσ, i1, i2, i3, i4, hn, hm, n1, s2]
    rfl

set_option maxHeartbeats 2000000 in
theorem w11 (w : Int) (a : Int) (b : Int) (c : Int) : FnV TT 11 [.int .i64 w, .int .i64 a, .int .i64 b, .int .i64 c] (.bool true) := by
  refine FnV.mk fn11 rfl md11 ?_ (fun _ => rfl) rfl
  rw [fi11]
  obtain ⟨σ0, hσ⟩ : ∃ σ0, (⟨[], 0⟩ : St) = σ0 := ⟨_, rfl⟩
  have hn0 : σ0.n = 0 := by subst hσ; rfl
  rw [hσ]
  have hS := o51 w a b c
  have hI := o52 w a b c
  cases hx : xsR w a b c with
  | none =>
    rw [hx] at hS hI
    have cS : ∀ σ : St, callI TT 51 [.int .i64 w, .int .i64 a, .int .i64 b, .int .i64 c] σ = some (.tup [.agg [.int .i64 0, .nilS, .int .i64 0], .bool false], σ) := fun σ => hS.nil rfl
    have cI : ∀ σ : St, callI TT 52 [.int .i64 w, .int .i64 a, .int .i64 b, .int .i64 c] σ = some (.tup [.agg [.int .i64 0, .nilS, .int .i64 0], .bool false], σ) := fun σ => hI.nil rfl
    have cE : ∀ σ : St, callI TT 34 [.agg [.int .i64 0, .nilS, .int .i64 0], .agg [.int .i64 0, .nilS, .int .i64 0]] σ = some (.bool true, σ) := fun σ => v34n σ _ rfl
    have cH : ∀ σ : St, callI TT 39 [.agg [.int .i64 0, .nilS, .int .i64 0], .int .i64 1] σ = some (.int .i64 1, σ) := fun σ => v39n 1 σ _ rfl
    have cM : ∀ σ : St, callI TT 38 [.agg [.int .i64 0, .nilS, .int .i64 0], .int .i64 1] σ = some (.int .i64 1, σ.push ⟨[.int .i64 0, .nilS, .int .i64 0], 3, false⟩) := fun σ => m38n σ 1
    clear hS hI
    subst hσ
    simp [xI_seq, xI_region, xI_ret, regA, regOps, runOps, opStep, wantedA, opA, evo, evos, calleeA, lk, nif_eq, putE, paramsE, valS, val2, keepE, restrict, finA, resA, binA, binInt, ofConst, ofConst1, loadA, TK.isAgg, asVar, unA, builtinA, lenOpA, lenA, ileb_cast, ileb_eq, ieqb_dec, indexAddrA, inB_dec, evPairs, storeA, AV.cellsOf, pairsOf, xI_nil, binBool, gcE, evOpt, xI_block, xI_loopH, xI_condM, xI_exitM, xI_skip, xI_blk, exitA, ty3, ty4, ty41, cellsAt, getCells, takeN, dropN, fieldAddrA, allOne, AV.one, n_push, storeCellsA, putN, overN, ty2, ty33, ty38, ty41, St.push, St.get, St.set, hget, hset, cS, cI, cE, cH, cM]
  | some r =>
    obtain ⟨W, l, O⟩ := r
    rw [hx] at hS hI
    have hl : l.length < 1000 := by
      exact xsR_length hx
    obtain ⟨σ1, c1, r1, o1, n1⟩ := hS.row (σ := σ0) (args := [.int .i64 w, .int .i64 a, .int .i64 b, .int .i64 c]) rfl
    obtain ⟨σ2, s2, n2, q2, o2⟩ := boxed σ1 (.int .i64 0) .nilS (.int .i64 0) (.int .i64 W) (.sl σ0.n 0 l.length l.length) (.int .i64 O) rfl
    replace r1 := r1.old o2
    obtain ⟨σ3, c3, r3, o3, n3⟩ := hI.row (σ := σ2) (args := [.int .i64 w, .int .i64 a, .int .i64 b, .int .i64 c]) rfl
    replace r1 := r1.old o3
    replace q2 := cells_old (by omega) q2 o3
    obtain ⟨σ4, s4, n4, q4, o4⟩ := boxed σ3 (.int .i64 0) .nilS (.int .i64 0) (.int .i64 W) (.sl σ2.n 0 l.length l.length) (.int .i64 O) rfl
    replace r1 := r1.old o4
    replace r3 := r3.old o4
    replace q2 := cells_old (by omega) q2 o4
    have c5 := v34 W l O (by omega) σ4 [.agg [.int .i64 W, .sl σ2.n 0 l.length l.length, .int .i64 O], .agg [.int .i64 W, .sl σ0.n 0 l.length l.length, .int .i64 O]] (mapO_cons (frzV_agg (mapO_cons rfl (mapO_cons (r3.frz rfl (Nat.le_refl _)) (mapO_cons rfl rfl)))) (mapO_cons (frzV_agg (mapO_cons rfl (mapO_cons (r1.frz rfl (Nat.le_refl _)) (mapO_cons rfl rfl)))) rfl))
    obtain ⟨σ6, c6, r6, n6, u6⟩ := m38 σ4 σ2.n l.length 1 W O l rfl (by omega) (by decide) r3
    have hr1 := r1.lt
    replace r1 := r1.keep (by omega) (u6 _ (by omega) (by omega))
    have q4' : cellsAt σ6 (.ptr σ3.n 0) 3 = some [.int .i64 W, .sl σ2.n 0 l.length l.length, .int .i64 O] := by rw [← q4]; simp only [cellsAt]; rw [u6 _ (by omega) (by omega)]
    have q2' : cellsAt σ6 (.ptr σ1.n 0) 3 = some [.int .i64 W, .sl σ0.n 0 l.length l.length, .int .i64 O] := by rw [← q2]; simp only [cellsAt]; rw [u6 _ (by omega) (by omega)]
    have hfz : mapO (frzV σ6 frzDepth) [.agg [.int .i64 W, .sl σ2.n 0 l.length l.length, .int .i64 O], .int .i64 (1 : Nat)] = some [.agg [.int .i64 W, .lst l.length (ints (iotaF (1 : Nat) l.length)), .int .i64 O], .int .i64 (1 : Nat)] := mapO_cons (frzV_agg (mapO_cons rfl (mapO_cons (r6.frz (iotaF_length _ _).symm (Nat.le_refl _)) (mapO_cons rfl rfl)))) rfl
    have c7 := v39 W O l.length 1 (by omega) (by decide) σ6 _ hfz
    obtain ⟨σ8, c8, r8, o8, n8⟩ := hI.row (σ := σ6) (args := [.int .i64 w, .int .i64 a, .int .i64 b, .int .i64 c]) rfl
    replace r1 := r1.old o8
    replace r6 := r6.old o8
    replace q2' := cells_old (by omega) q2' o8
    have q4a := cells_old (by omega) q4' o8
    obtain ⟨σ9, s9, n9, q9, o9⟩ := boxed σ8 (.int .i64 0) .nilS (.int .i64 0) (.int .i64 W) (.sl σ6.n 0 l.length l.length) (.int .i64 O) rfl
    replace r1 := r1.old o9
    replace r6 := r6.old o9
    replace r8 := r8.old o9
    replace q2' := cells_old (by omega) q2' o9
    replace q4a := cells_old (by omega) q4a o9
    have c10 := v34 W l O (by omega) σ9 [.agg [.int .i64 W, .sl σ6.n 0 l.length l.length, .int .i64 O], .agg [.int .i64 W, .sl σ0.n 0 l.length l.length, .int .i64 O]] (mapO_cons (frzV_agg (mapO_cons rfl (mapO_cons (r8.frz rfl (Nat.le_refl _)) (mapO_cons rfl rfl)))) (mapO_cons (frzV_agg (mapO_cons rfl (mapO_cons (r1.frz rfl (Nat.le_refl _)) (mapO_cons rfl rfl)))) rfl))
    have hfz9 : mapO (frzV σ9 frzDepth) [.agg [.int .i64 W, .sl σ2.n 0 l.length l.length, .int .i64 O], .int .i64 (1 : Nat)] = some [.agg [.int .i64 W, .lst l.length (ints (iotaF (1 : Nat) l.length)), .int .i64 O], .int .i64 (1 : Nat)] := mapO_cons (frzV_agg (mapO_cons rfl (mapO_cons (r6.frz (iotaF_length _ _).symm (Nat.le_refl _)) (mapO_cons rfl rfl)))) rfl
    have c11 := v39 W O l.length 1 (by omega) (by decide) σ9 _ hfz9
    refine ⟨σ9, ?_⟩
    clear hS hI hfz hfz9 r1 r3 r6 r8 o1 o2 o3 o4 o8 o9 u6
    have z1 : ¬ (((1 + l.length : Nat) : Int) < 0) := by omega
    generalize ((1 + l.length : Nat) : Int) = z at *
    have z2 : 0 ≤ z := by omega
    simp only [show ((1 : Nat) : Int) = 1 from rfl] at c6 c7 c11
    simp [xI_seq, xI_region, xI_ret, regA, regOps, runOps, opStep, wantedA, opA, evo, evos, calleeA, lk, nif_eq, putE, paramsE, valS, val2, keepE, restrict, finA, resA, binA, binInt, ofConst, ofConst1, loadA, TK.isAgg, asVar, unA, builtinA, lenOpA, lenA, ileb_cast, ileb_eq, ieqb_dec, indexAddrA, inB_dec, evPairs, storeA, AV.cellsOf, pairsOf, xI_nil, binBool, gcE, evOpt, xI_block, xI_loopH, xI_condM, xI_exitM, xI_skip, xI_blk, exitA, ty3, ty4, ty41, allOne, AV.one, ty2, ty33, ty41, ty46, ty49, c1, s2, c3, q2, s4, q4, c5, c6, q4', q2', c7, c8, q4a, s9, q9, c10, c11, z1, z2]
open Go.Wd
theorem wrap_u (z : Int) : ∃ m : Nat, wrapA .u64 z = m ∧ m < 18446744073709551616 := by
  refine ⟨(wrapA .u64 z).toNat, ?_, ?_⟩ <;> (rw [wrapA_eq]; simp [IntKind.wrap, IntKind.bits, IntKind.signed]; omega)
/-- A source of choices in the heap. -/
def SRC (σ : St) (s : Nat) (l : List Nat) (k m : Nat) : Prop := s < σ.n ∧ σ.get s = some ⟨[.lst l.length (byts l), .int .i64 k, .int .u64 m], 3, false⟩ ∧ m < 18446744073709551616
theorem SRC.set {σ : St} {s : Nat} {l : List Nat} {k m k' m' : Nat} (h : SRC σ s l k m) (hm : m' < 18446744073709551616) : ∃ σ1 σ2, storeCellsA σ s 1 [.int .i64 (k' : Int)] = some σ1 ∧ cellsAt σ1 (.ptr s 2) 1 = some [.int .u64 m] ∧ storeCellsA σ1 s 2 [.int .u64 (m' : Int)] = some σ2 ∧ SRC σ2 s l k' m' ∧ σ2.n = σ.n ∧ ∀ c, c ≠ s → σ2.get c = σ.get c := by
  obtain ⟨h1, h2, _⟩ := h
  have e1 : (σ.set s ⟨[.lst l.length (byts l), .int .i64 k', .int .u64 m], 3, false⟩).get s = some ⟨[.lst l.length (byts l), .int .i64 k', .int .u64 m], 3, false⟩ := get_set_eq h2
  refine ⟨σ.set s ⟨[.lst l.length (byts l), .int .i64 k', .int .u64 m], 3, false⟩, (σ.set s ⟨[.lst l.length (byts l), .int .i64 k', .int .u64 m], 3, false⟩).set s ⟨[.lst l.length (byts l), .int .i64 k', .int .u64 m'], 3, false⟩, ?_, ?_, ?_, ⟨h1, get_set_eq e1, hm⟩, rfl, fun c hc => ?_⟩
  · simp [storeCellsA, h2, allOne, AV.one, putN, overN]
  · simp [cellsAt, e1, getCells, takeN, dropN]
  · simp [storeCellsA, e1, allOne, AV.one, putN, overN]
  · rw [get_set_ne (fun h => hc h.symm), get_set_ne (fun h => hc h.symm)]
theorem SRC.c0 {σ : St} {s : Nat} {l : List Nat} {k m : Nat} (h : SRC σ s l k m) : cellsAt σ (.ptr s 0) 1 = some [.lst l.length (byts l)] := by simp [cellsAt, h.2.1, getCells, takeN, dropN]
theorem SRC.c1 {σ : St} {s : Nat} {l : List Nat} {k m : Nat} (h : SRC σ s l k m) : cellsAt σ (.ptr s 1) 1 = some [.int .i64 k] := by simp [cellsAt, h.2.1, getCells, takeN, dropN]
theorem SRC.c2 {σ : St} {s : Nat} {l : List Nat} {k m : Nat} (h : SRC σ s l k m) : cellsAt σ (.ptr s 2) 1 = some [.int .u64 m] := by simp [cellsAt, h.2.1, getCells, takeN, dropN]
theorem c124 (l : List Nat) (hl : ∀ x ∈ l, x < 256) (hll : l.length ≤ 1000) (k m : Nat) (hk : k ≤ 1000000) (σ : St) (s : Nat) (h : SRC σ s l k m) :
    ∃ (r m' : Nat) (σ' : St), callI TT 124 [.ptr s 0] σ = some (.int .i64 r, σ') ∧ r ≤ 255 ∧ SRC σ' s l (k + 1) m' ∧ σ'.n = σ.n ∧ ∀ c, c ≠ s → σ'.get c = σ.get c := by
  have c0 := h.c0
  have c1 := h.c1
  have hw := wrapS (n := k) (by omega)
  have step : ∀ b : Nat, ∃ (m3 : Nat) (σ1 σ2 : St), m3 < 18446744073709551616 ∧ storeCellsA σ s 1 [.int .i64 ((k : Int) + 1)] = some σ1 ∧ cellsAt σ1 (.ptr s 2) 1 = some [.int .u64 m] ∧ wrapA .u64 (wrapA .u64 (wrapA .u64 ((m : Int) * 6364136223846793005) + (b : Int)) + 1442695040888963407) = (m3 : Int) ∧ storeCellsA σ1 s 2 [.int .u64 (m3 : Int)] = some σ2 ∧ SRC σ2 s l (k + 1) m3 ∧ σ2.n = σ.n ∧ ∀ c, c ≠ s → σ2.get c = σ.get c := by
    intro b
    obtain ⟨m3, e3, h3⟩ := wrap_u (wrapA .u64 (wrapA .u64 ((m : Int) * 6364136223846793005) + (b : Int)) + 1442695040888963407)
    obtain ⟨σ1, σ2, a1, a2, a3, a4, a5, a6⟩ := h.set (k' := k + 1) h3
    exact ⟨m3, σ1, σ2, h3, by simpa using a1, a2, e3, a3, a4, a5, a6⟩
  by_cases hlt : k < l.length
  · obtain ⟨b, hb⟩ : ∃ b, l[k]? = some b := ⟨l[k], List.getElem?_eq_getElem hlt⟩
    have hb2 : b < 256 := hl b (List.mem_of_getElem? hb)
    obtain ⟨m3, σ1, σ2, h3, a1, a2, a3, a4, a5, a6, a7⟩ := step b
    have d0 := a5.c0
    have d1 := a5.c1
    have kb : ∀ σ, cellsAt σ (.lp (byts l) k) 1 = some [.int .u8 b] := fun σ => getCells_byt hb
    have u1 : wrapA .i64 (b : Int) = b := n_wrap (by omega)
    have u2 : wrapA .u64 (b : Int) = b := n_wrapu (by omega)
    have hlt2 : ¬ l.length ≤ k := by omega
    have hle : k + 1 ≤ l.length := by omega
    have hle' : (k : Int) + 1 ≤ l.length := by omega
    have hle2 : ¬ ((l.length : Int) < (k : Int) + 1) := by omega
    refine ⟨b, m3, σ2, ?_, by omega, a5, a6, a7⟩
    simp only [Int.natCast_add, show ((1 : Nat) : Int) = 1 from rfl] at d1
    rw [cI_0 fn124 rfl md124, fi124]
    simp [xI_seq, xI_region, xI_ret, regA, regOps, runOps, opStep, wantedA, opA, evo, evos, calleeA, lk, nif_eq, putE, paramsE, valS, val2, keepE, restrict, finA, resA, binA, binInt, ofConst, ofConst1, loadA, TK.isAgg, asVar, unA, builtinA, lenOpA, lenA, ileb_cast, ileb_eq, ieqb_dec, indexAddrA, inB_dec, evPairs, storeA, AV.cellsOf, pairsOf, xI_nil, binBool, gcE, evOpt, xI_block, xI_loopH, xI_condM, xI_exitM, xI_skip, xI_blk, exitA, ty2, ty3, ty5, ty29, ty145, ty147, fieldAddrA, allOne, AV.one, ty2, ty3, ty5, ty29, ty94, ty145, ty147, c0, c1, hw, hlt, hlt2, kb, u1, u2, a1, a2, a3, a4, d0, d1, hle, hle', hle2, convA]
  · obtain ⟨m3, σ1, σ2, h3, a1, a2, a3, a4, a5, a6, a7⟩ := step 0
    have d0 := a5.c0
    have d1 := a5.c1
    have d2 := a5.c2
    have u2 : wrapA .u64 (0 : Int) = 0 := by decide
    have hlt2 : l.length ≤ k := by omega
    have hle : ¬ k + 1 ≤ l.length := by omega
    have hle' : ¬ (k : Int) + 1 ≤ l.length := by omega
    have hle2 : (l.length : Int) < (k : Int) + 1 := by omega
    have e1 : shrA (m3 : Int) (min 40 IntKind.u64.bits) = ((shrN m3 40 : Nat) : Int) := rfl
    have e2 : bitsA .and .u64 ((shrN m3 40 : Nat) : Int) 255 = some (.int .u64 ((andN (shrN m3 40) 255 : Nat) : Int)) := w_and .u64 (a := shrN m3 40) (b := 255) (by show m3 / 2 ^ 40 ≤ _; simp only [topOf]; omega) (by decide)
    have e3 : andN (shrN m3 40) 255 ≤ 255 := Nat.and_le_right
    have e4 : wrapA .i64 ((andN (shrN m3 40) 255 : Nat) : Int) = ((andN (shrN m3 40) 255 : Nat) : Int) := n_wrap (by omega)
    refine ⟨andN (shrN m3 40) 255, m3, σ2, ?_, e3, a5, a6, a7⟩
    simp only [Int.natCast_add, show ((1 : Nat) : Int) = 1 from rfl] at d1
    simp only [show ((0 : Nat) : Int) = 0 from rfl, Int.add_zero] at a3
    rw [cI_0 fn124 rfl md124, fi124]
    simp [xI_seq, xI_region, xI_ret, regA, regOps, runOps, opStep, wantedA, opA, evo, evos, calleeA, lk, nif_eq, putE, paramsE, valS, val2, keepE, restrict, finA, resA, binA, binInt, ofConst, ofConst1, loadA, TK.isAgg, asVar, unA, builtinA, lenOpA, lenA, ileb_cast, ileb_eq, ieqb_dec, indexAddrA, inB_dec, evPairs, storeA, AV.cellsOf, pairsOf, xI_nil, binBool, gcE, evOpt, xI_block, xI_loopH, xI_condM, xI_exitM, xI_skip, xI_blk, exitA, ty2, ty3, ty5, ty29, ty145, ty147, fieldAddrA, allOne, AV.one, ty2, ty3, ty5, ty29, ty94, ty145, ty147, c0, c1, hw, hlt, hlt2, u2, a1, a2, a3, a4, d0, d1, d2, hle, hle', hle2, e1, e2, e4, convA]

theorem c78 (l : List Nat) (hl : ∀ x ∈ l, x < 256) (hll : l.length ≤ 1000) (k m : Nat) (hk : k ≤ 999000) (n : Nat) (hn : n ≤ 1000000) (σ : St) (s : Nat) (h : SRC σ s l k m) :
    ∃ (r k' m' : Nat) (σ' : St), callI TT 78 [.ptr s 0, .int .i64 n] σ = some (.int .i64 r, σ') ∧ r < max 1 n ∧ SRC σ' s l k' m' ∧ k' ≤ k + 2 ∧ σ'.n = σ.n ∧ ∀ c, c ≠ s → σ'.get c = σ.get c := by
  by_cases h1 : n ≤ 1
  · have h1' : (n : Int) ≤ 1 := by omega
    refine ⟨0, k, m, σ, ?_, by omega, h, by omega, rfl, fun _ _ => rfl⟩
    rw [cI_0 fn78 rfl md78, fi78]
    simp [xI_seq, xI_region, xI_ret, regA, regOps, runOps, opStep, wantedA, opA, evo, evos, calleeA, lk, nif_eq, putE, paramsE, valS, val2, keepE, restrict, finA, resA, binA, binInt, ofConst, ofConst1, loadA, TK.isAgg, asVar, unA, builtinA, lenOpA, lenA, ileb_cast, ileb_eq, ieqb_dec, indexAddrA, inB_dec, evPairs, storeA, AV.cellsOf, pairsOf, xI_nil, binBool, gcE, evOpt, xI_block, xI_loopH, xI_condM, xI_exitM, xI_skip, xI_blk, exitA, ty2, h1, h1']
  · have h1' : ¬ (n : Int) ≤ 1 := by omega
    have h0 : ¬ (n : Int) = 0 := by omega
    have h00 : ¬ n = 0 := by omega
    obtain ⟨r1, m1, σ1, c1, b1, s1, e1, k1⟩ := c124 l hl hll k m (by omega) σ s h
    by_cases h2 : 200 < n
    · have h2' : (200 : Int) < (n : Int) := by omega
      obtain ⟨r2, m2, σ2, c2, b2, s2, e2, k2⟩ := c124 l hl hll (k + 1) m1 (by omega) σ1 s s1
      have w1 : wrapA .i64 ((r1 : Int) * 256) = ((mulN r1 256 : Nat) : Int) := n_wrap (a := mulN r1 256) (by show r1 * 256 ≤ _; omega)
      have w2 : wrapA .i64 (((mulN r1 256 : Nat) : Int) + (r2 : Int)) = ((addN (mulN r1 256) r2 : Nat) : Int) := by rw [← Int.natCast_add]; exact n_wrap (a := addN (mulN r1 256) r2) (by show r1 * 256 + r2 ≤ _; omega)
      have w3 : ((addN (mulN r1 256) r2 : Nat) : Int).tmod (n : Int) = ((modN (addN (mulN r1 256) r2) n : Nat) : Int) := rfl
      have w4 : ((addN (mulN r1 256) r2 : Nat) : Int) % (n : Int) = ((modN (addN (mulN r1 256) r2) n : Nat) : Int) := rfl
      have w5 : modN (addN (mulN r1 256) r2) n < n := Nat.mod_lt _ (by omega)
      refine ⟨modN (addN (mulN r1 256) r2) n, k + 2, m2, σ2, ?_, by omega, s2, Nat.le_refl _, by omega, fun c hc => (k2 c hc).trans (k1 c hc)⟩
      rw [cI_0 fn78 rfl md78, fi78]
      simp [xI_seq, xI_region, xI_ret, regA, regOps, runOps, opStep, wantedA, opA, evo, evos, calleeA, lk, nif_eq, putE, paramsE, valS, val2, keepE, restrict, finA, resA, binA, binInt, ofConst, ofConst1, loadA, TK.isAgg, asVar, unA, builtinA, lenOpA, lenA, ileb_cast, ileb_eq, ieqb_dec, indexAddrA, inB_dec, evPairs, storeA, AV.cellsOf, pairsOf, xI_nil, binBool, gcE, evOpt, xI_block, xI_loopH, xI_condM, xI_exitM, xI_skip, xI_blk, exitA, ty2, h1, h1', h0, h00, c1, h2, h2', w1, c2, w2, w3, w4]
    · have h2' : ¬ (200 : Int) < (n : Int) := by omega
      have w3 : (r1 : Int).tmod (n : Int) = ((modN r1 n : Nat) : Int) := rfl
      have w4 : (r1 : Int) % (n : Int) = ((modN r1 n : Nat) : Int) := rfl
      have w5 : modN r1 n < n := Nat.mod_lt _ (by omega)
      refine ⟨modN r1 n, k + 1, m1, σ1, ?_, by omega, s1, by omega, e1, k1⟩
      rw [cI_0 fn78 rfl md78, fi78]
      simp [xI_seq, xI_region, xI_ret, regA, regOps, runOps, opStep, wantedA, opA, evo, evos, calleeA, lk, nif_eq, putE, paramsE, valS, val2, keepE, restrict, finA, resA, binA, binInt, ofConst, ofConst1, loadA, TK.isAgg, asVar, unA, builtinA, lenOpA, lenA, ileb_cast, ileb_eq, ieqb_dec, indexAddrA, inB_dec, evPairs, storeA, AV.cellsOf, pairsOf, xI_nil, binBool, gcE, evOpt, xI_block, xI_loopH, xI_condM, xI_exitM, xI_skip, xI_blk, exitA, ty2, h1, h1', h0, h00, c1, h2, h2', w3, w4]

theorem c112 (l : List Nat) (hl : ∀ x ∈ l, x < 256) (hll : l.length ≤ 1000) (k m : Nat) (hk : k ≤ 999000) (n : Nat) (hn : n ≤ 1000000) (σ : St) (s : Nat) (h : SRC σ s l k m) :
    ∃ (r : Bool) (k' m' : Nat) (σ' : St), callI TT 112 [.ptr s 0, .int .i64 n] σ = some (.bool r, σ') ∧ SRC σ' s l k' m' ∧ k' ≤ k + 2 ∧ σ'.n = σ.n ∧ ∀ c, c ≠ s → σ'.get c = σ.get c := by
  obtain ⟨r, k', m', σ', c1, _, s1, hk', hn', hc⟩ := c78 l hl hll k m hk n hn σ s h
  refine ⟨decide (r = 0), k', m', σ', ?_, s1, hk', hn', hc⟩
  rw [cI_0 fn112 rfl md112, fi112]
  simp [xI_seq, xI_region, xI_ret, regA, regOps, runOps, opStep, wantedA, opA, evo, evos, calleeA, lk, nif_eq, putE, paramsE, valS, val2, keepE, restrict, finA, resA, binA, binInt, ofConst, ofConst1, loadA, TK.isAgg, asVar, unA, builtinA, lenOpA, lenA, ileb_cast, ileb_eq, ieqb_dec, indexAddrA, inB_dec, evPairs, storeA, AV.cellsOf, pairsOf, xI_nil, binBool, gcE, evOpt, xI_block, xI_loopH, xI_condM, xI_exitM, xI_skip, xI_blk, exitA, ty2, c1]

theorem c77 (l : List Nat) (σ : St) : ∃ σ', callI TT 77 [.lst l.length (byts l)] σ = some (.ptr σ.n 0, σ') ∧ SRC σ' σ.n l 0 0 ∧ σ'.n = σ.n + 1 ∧ Old σ σ' := by
  refine ⟨σ.push ⟨[.lst l.length (byts l), .int .i64 0, .int .u64 0], 3, false⟩, ?_, ⟨Nat.lt_succ_self _, get_push_same, by decide⟩, rfl, Old.push⟩
  rw [cI_0 fn77 rfl md77, fi77]
  simp [xI_seq, xI_region, xI_ret, regA, regOps, runOps, opStep, wantedA, opA, evo, evos, calleeA, lk, nif_eq, putE, paramsE, valS, val2, keepE, restrict, finA, resA, binA, binInt, ofConst, ofConst1, loadA, TK.isAgg, asVar, unA, builtinA, lenOpA, lenA, ileb_cast, ileb_eq, ieqb_dec, indexAddrA, inB_dec, evPairs, storeA, AV.cellsOf, pairsOf, xI_nil, binBool, gcE, evOpt, xI_block, xI_loopH, xI_condM, xI_exitM, xI_skip, xI_blk, exitA, ty147, allOne, AV.one, buildA, sizesOf, fillA, putCells, ty3, ty29, ty145, ty147]

theorem v26 (l : List Nat) (hl : ∀ x ∈ l, x < 256) (hll : l.length ≤ 1000) (n : Nat) (hn : n ≤ 1000000) : ∃ r : Nat, r < max 1 n ∧ FnV TT 26 [.lst l.length (byts l), .int .i64 n] (.int .i64 r) := by
  obtain ⟨σ1, c1, s1, n1, _⟩ := c77 l ⟨[], 0⟩
  obtain ⟨r, k', m', σ2, c2, hr, _⟩ := c78 l hl hll 0 0 (by decide) n hn σ1 0 s1
  refine ⟨r, hr, FnV.mk fn26 rfl md26 ⟨σ2, ?_⟩ (fun _ => rfl) rfl⟩
  rw [fi26]
  simp only [show (⟨[], 0⟩ : St).n = 0 from rfl] at c1
  simp [xI_seq, xI_region, xI_ret, regA, regOps, runOps, opStep, wantedA, opA, evo, evos, calleeA, lk, nif_eq, putE, paramsE, valS, val2, keepE, restrict, finA, resA, binA, binInt, ofConst, ofConst1, loadA, TK.isAgg, asVar, unA, builtinA, lenOpA, lenA, ileb_cast, ileb_eq, ieqb_dec, indexAddrA, inB_dec, evPairs, storeA, AV.cellsOf, pairsOf, xI_nil, binBool, gcE, evOpt, xI_block, xI_loopH, xI_condM, xI_exitM, xI_skip, xI_blk, exitA, c1, c2]

theorem v27 (l : List Nat) (hl : ∀ x ∈ l, x < 256) (hll : l.length ≤ 1000) (k : Nat) (hk : k ≤ 100000) (n : Nat) (hn : n ≤ 1000000000) : ∃ r : Nat, r < max 1 n ∧ FnV TT 27 [.lst l.length (byts l), .int .i64 k, .int .i64 n] (.int .i64 r) := by
  by_cases h1 : n ≤ 1
  · have h1' : (n : Int) ≤ 1 := by omega
    refine ⟨0, by omega, FnV.mk fn27 rfl md27 ⟨⟨[], 0⟩, ?_⟩ (fun _ => rfl) rfl⟩
    rw [fi27]
    simp [xI_seq, xI_region, xI_ret, regA, regOps, runOps, opStep, wantedA, opA, evo, evos, calleeA, lk, nif_eq, putE, paramsE, valS, val2, keepE, restrict, finA, resA, binA, binInt, ofConst, ofConst1, loadA, TK.isAgg, asVar, unA, builtinA, lenOpA, lenA, ileb_cast, ileb_eq, ieqb_dec, indexAddrA, inB_dec, evPairs, storeA, AV.cellsOf, pairsOf, xI_nil, binBool, gcE, evOpt, xI_block, xI_loopH, xI_condM, xI_exitM, xI_skip, xI_blk, exitA, ty2, ty5, ty29, h1, h1']
  · have h1' : ¬ (n : Int) ≤ 1 := by omega
    by_cases h2 : l.length ≤ k
    · refine ⟨0, by omega, FnV.mk fn27 rfl md27 ⟨⟨[], 0⟩, ?_⟩ (fun _ => rfl) rfl⟩
      rw [fi27]
      simp [xI_seq, xI_region, xI_ret, regA, regOps, runOps, opStep, wantedA, opA, evo, evos, calleeA, lk, nif_eq, putE, paramsE, valS, val2, keepE, restrict, finA, resA, binA, binInt, ofConst, ofConst1, loadA, TK.isAgg, asVar, unA, builtinA, lenOpA, lenA, ileb_cast, ileb_eq, ieqb_dec, indexAddrA, inB_dec, evPairs, storeA, AV.cellsOf, pairsOf, xI_nil, binBool, gcE, evOpt, xI_block, xI_loopH, xI_condM, xI_exitM, xI_skip, xI_blk, exitA, ty2, ty5, ty29, h1, h1', h2]
    · have h2' : k < l.length := by omega
      obtain ⟨b, hb⟩ : ∃ b, l[k]? = some b := ⟨l[k], List.getElem?_eq_getElem h2'⟩
      have hb2 : b < 256 := hl b (List.mem_of_getElem? hb)
      have kb : ∀ σ, cellsAt σ (.lp (byts l) k) 1 = some [.int .u8 b] := fun σ => getCells_byt hb
      have u1 : wrapA .i64 (b : Int) = b := n_wrap (by omega)
      have h0 : ¬ (n : Int) = 0 := by omega
      have h00 : ¬ n = 0 := by omega
      have w3 : (b : Int).tmod (n : Int) = ((modN b n : Nat) : Int) := rfl
      have w4 : (b : Int) % (n : Int) = ((modN b n : Nat) : Int) := rfl
      have w5 : modN b n < n := Nat.mod_lt _ (by omega)
      refine ⟨modN b n, by omega, FnV.mk fn27 rfl md27 ⟨⟨[], 0⟩, ?_⟩ (fun _ => rfl) rfl⟩
      rw [fi27]
      simp [xI_seq, xI_region, xI_ret, regA, regOps, runOps, opStep, wantedA, opA, evo, evos, calleeA, lk, nif_eq, putE, paramsE, valS, val2, keepE, restrict, finA, resA, binA, binInt, ofConst, ofConst1, loadA, TK.isAgg, asVar, unA, builtinA, lenOpA, lenA, ileb_cast, ileb_eq, ieqb_dec, indexAddrA, inB_dec, evPairs, storeA, AV.cellsOf, pairsOf, xI_nil, binBool, gcE, evOpt, xI_block, xI_loopH, xI_condM, xI_exitM, xI_skip, xI_blk, exitA, ty2, ty5, ty29, h1, h1', h2, h2', kb, u1, h0, h00, w3, w4, convA, ty5]

theorem v25 (a b : List Nat) : FnV TT 25 [.lst a.length (byts a), .lst b.length (byts b)] (.bool (decide (48 < a.length) || decide (48 < b.length))) := by
  refine FnV.mk fn25 rfl md25 ⟨⟨[], 0⟩, ?_⟩ (fun _ => rfl) rfl
  rw [fi25]
  by_cases h1 : 48 < a.length
  · have h1' : (48 : Int) < a.length := by omega
    have h1'' : ¬ (a.length : Int) ≤ 48 := by omega
    simp [xI_seq, xI_region, xI_ret, regA, regOps, runOps, opStep, wantedA, opA, evo, evos, calleeA, lk, nif_eq, putE, paramsE, valS, val2, keepE, restrict, finA, resA, binA, binInt, ofConst, ofConst1, loadA, TK.isAgg, asVar, unA, builtinA, lenOpA, lenA, ileb_cast, ileb_eq, ieqb_dec, indexAddrA, inB_dec, evPairs, storeA, AV.cellsOf, pairsOf, xI_nil, binBool, gcE, evOpt, xI_block, xI_loopH, xI_condM, xI_exitM, xI_skip, xI_blk, exitA, ty3, ty5, ty29, h1, h1', h1'']
  · have h1' : ¬ (48 : Int) < a.length := by omega
    have h1'' : (a.length : Int) ≤ 48 := by omega
    by_cases h2 : 48 < b.length
    · have h2' : (48 : Int) < b.length := by omega
      have h2'' : ¬ (b.length : Int) ≤ 48 := by omega
      simp [xI_seq, xI_region, xI_ret, regA, regOps, runOps, opStep, wantedA, opA, evo, evos, calleeA, lk, nif_eq, putE, paramsE, valS, val2, keepE, restrict, finA, resA, binA, binInt, ofConst, ofConst1, loadA, TK.isAgg, asVar, unA, builtinA, lenOpA, lenA, ileb_cast, ileb_eq, ieqb_dec, indexAddrA, inB_dec, evPairs, storeA, AV.cellsOf, pairsOf, xI_nil, binBool, gcE, evOpt, xI_block, xI_loopH, xI_condM, xI_exitM, xI_skip, xI_blk, exitA, ty3, ty5, ty29, h1, h1', h1'', h2, h2', h2'']
    · have h2' : ¬ (48 : Int) < b.length := by omega
      have h2'' : (b.length : Int) ≤ 48 := by omega
      simp [xI_seq, xI_region, xI_ret, regA, regOps, runOps, opStep, wantedA, opA, evo, evos, calleeA, lk, nif_eq, putE, paramsE, valS, val2, keepE, restrict, finA, resA, binA, binInt, ofConst, ofConst1, loadA, TK.isAgg, asVar, unA, builtinA, lenOpA, lenA, ileb_cast, ileb_eq, ieqb_dec, indexAddrA, inB_dec, evPairs, storeA, AV.cellsOf, pairsOf, xI_nil, binBool, gcE, evOpt, xI_block, xI_loopH, xI_condM, xI_exitM, xI_skip, xI_blk, exitA, ty3, ty5, ty29, h1, h1', h1'', h2, h2', h2'']

open Go.Wd
noncomputable def b113 : Code := Try.f113.body.getD .skip
noncomputable def B113_0 : Code := (bodyC (bodyC (sndC (fstC (sndC (sndC (sndC b113)))))))
noncomputable def K113_0 : List It := .lp B113_0 :: .blk 0 :: .code (sndC (sndC (sndC (sndC b113)))) :: []
theorem xl113_0 {fi : FI} {env : Env} {σ : St} : exI TT fi K113_0 env σ = exI TT fi (.code B113_0 :: K113_0) env σ := by unfold K113_0; exact xI_lp
noncomputable def R113_0_0 : List It := .code (sndC (sndC (sndC (sndC b113)))) :: []
theorem eK113_0_0 : exitA 0 K113_0 = some R113_0_0 := rfl
/-- A machine in the heap. -/
def LINB (σ : St) (D : Nat) (a x c : AV) : Prop := σ.get D = some ⟨[a, x, c], 3, false⟩
theorem LINB.keep {σ σ' : St} {D : Nat} {a x c : AV} (h : LINB σ D a x c) (e : σ'.get D = σ.get D) : LINB σ' D a x c := by unfold LINB; rw [e]; exact h
theorem LINB.c1 {σ : St} {D : Nat} {a x c : AV} (h : LINB σ D a x c) : cellsAt σ (.ptr D 1) 1 = some [x] := by simp [cellsAt, (show σ.get D = _ from h), getCells, takeN, dropN]
theorem LINB.c3 {σ : St} {D : Nat} {a x c : AV} (h : LINB σ D a x c) : cellsAt σ (.ptr D 0) 3 = some [a, x, c] := by simp [cellsAt, (show σ.get D = _ from h), getCells, takeN, dropN]
theorem LINB.s1 {σ : St} {D : Nat} {a x c y : AV} (h : LINB σ D a x c) (hy : y.one = true) : ∃ σ', storeCellsA σ D 1 [y] = some σ' ∧ LINB σ' D a y c ∧ σ'.n = σ.n ∧ ∀ d, d ≠ D → σ'.get d = σ.get d :=
  ⟨σ.set D ⟨[a, y, c], 3, false⟩, by simp [storeCellsA, (show σ.get D = _ from h), allOne, hy, putN, overN], get_set_eq h, rfl, fun d hd => get_set_ne (fun e => hd e.symm)⟩
theorem LINB.s2 {σ : St} {D : Nat} {a x c : AV} (h : LINB σ D a x c) (y : Int) : ∃ σ', storeCellsA σ D 2 [.int .i64 y] = some σ' ∧ LINB σ' D a x (.int .i64 y) ∧ σ'.n = σ.n ∧ ∀ d, d ≠ D → σ'.get d = σ.get d :=
  ⟨σ.set D ⟨[a, x, .int .i64 y], 3, false⟩, by simp [storeCellsA, (show σ.get D = _ from h), allOne, AV.one, putN, overN], get_set_eq h, rfl, fun d hd => get_set_ne (fun e => hd e.symm)⟩
theorem LINB.s3 {σ : St} {D : Nat} {a x c a' x' c' : AV} (h : LINB σ D a x c) (h1 : a'.one = true) (h2 : x'.one = true) (h3 : c'.one = true) : ∃ σ', storeCellsA σ D 0 [a', x', c'] = some σ' ∧ LINB σ' D a' x' c' ∧ σ'.n = σ.n ∧ ∀ d, d ≠ D → σ'.get d = σ.get d :=
  ⟨σ.set D ⟨[a', x', c'], 3, false⟩, by simp [storeCellsA, (show σ.get D = _ from h), allOne, h1, h2, h3, putN, overN], get_set_eq h, rfl, fun d hd => get_set_ne (fun e => hd e.symm)⟩
theorem SRC.keep {σ σ' : St} {s : Nat} {l : List Nat} {k m : Nat} (h : SRC σ s l k m) (hn : σ.n ≤ σ'.n) (e : σ'.get s = σ.get s) : SRC σ' s l k m := ⟨Nat.lt_of_lt_of_le h.1 hn, by rw [e]; exact h.2.1, h.2.2⟩
/-- A row of a drawn machine. -/
theorem draw_row {w i r kind : Nat} (hw : w ≤ 16) (hi : i < w) (hr : r < pw w) : (if kind = 0 then (if i + 1 < w then pw (i + 1) else r) else if kind = 1 then orN (andN r (subN (pw i) 1)) (pw i) else r) < pw w := by
  have h1 : pw i < pw w := Nat.pow_lt_pow_right (by decide) hi
  split
  · split
    · exact Nat.pow_lt_pow_right (by decide) (by omega)
    · exact hr
  · split
    · exact Nat.or_lt_two_pow (Nat.lt_of_le_of_lt Nat.and_le_right (Nat.lt_of_le_of_lt (Nat.sub_le _ _) h1)) h1
    · exact hr
theorem pw_le16 {i : Nat} (h : i ≤ 16) : pw i ≤ 65536 := Nat.pow_le_pow_right (by decide) h
theorem pw_ge1 (i : Nat) : 1 ≤ pw i := Nat.two_pow_pos i
theorem cv73 (σ : St) {i : Nat} (h : i ≤ 16) : convA TT σ 2 73 (.int .i64 i) = some (.int .u64 i, σ) := by
  simp [convA, ty2, ty73, n_wrapu (a := i) (by omega)]
theorem sl_one (b n : Nat) : (AV.sl b 0 n n).one = true := rfl
theorem in_one (x : Int) : (AV.int .i64 x).one = true := rfl

theorem l113 (l : List Nat) (hl : ∀ x ∈ l, x < 256) (hll : l.length ≤ 1000) (w kind s P D : Nat) (hw : w ≤ 16) (hsD : D ≠ s) (hPD : P < D) : ∀ (m i : Nat) (R : List Nat) (b k mm : Nat) (σ : St), i + m = w → R.length = i → (∀ r ∈ R, r < pw w) → k ≤ 2 * i + 900000 → SRC σ s l k mm → LINB σ D (.int .i64 w) (.sl b 0 i i) (.int .i64 0) → D < σ.n → P < σ.n → Row σ b (nints R) → b ≠ s → b ≠ D → P < b →
    ∃ σ' b' R' k' m', exI TT (FI.of Try.f113 (TT.an 113)) K113_0 [(0, .ptr s 0), (1, .int .i64 w), (4, .ptr P 0), (5, .ptr D 0), (6, .int .i64 kind), (7, .int .i64 i)] σ = exI TT (FI.of Try.f113 (TT.an 113)) R113_0_0 [(0, .ptr s 0), (1, .int .i64 w), (4, .ptr P 0), (5, .ptr D 0), (6, .int .i64 kind), (7, .int .i64 w), (16, .bool false)] σ' ∧ R'.length = w ∧ (∀ r ∈ R', r < pw w) ∧ k' ≤ 2 * w + 900000 ∧ SRC σ' s l k' m' ∧ LINB σ' D (.int .i64 w) (.sl b' 0 w w) (.int .i64 0) ∧ σ.n ≤ σ'.n ∧ Row σ' b' (nints R') ∧ b' ≠ s ∧ b' ≠ D ∧ P < b' ∧ ∀ c, c ≤ P → c ≠ s → σ'.get c = σ.get c := by
  intro m
  induction m with
  | zero =>
    intro i R b k mm σ hi hR hB hk hS hL hD hP hr b1 b2 b3
    obtain rfl : i = w := by omega
    refine ⟨σ, b, R, k, mm, ?_, hR, hB, hk, hS, hL, Nat.le_refl _, hr, b1, b2, b3, fun _ _ _ => rfl⟩
    rw [fi113]
    rw [xl113_0]
    simp only [B113_0, b113, Try.f113, Option.getD, fstC, sndC, bodyC, thnC, elsC]
    simp [xI_seq, xI_region, xI_ret, regA, regOps, runOps, opStep, wantedA, opA, evo, evos, calleeA, lk, nif_eq, putE, paramsE, valS, val2, keepE, restrict, finA, resA, binA, binInt, ofConst, ofConst1, loadA, TK.isAgg, asVar, unA, builtinA, lenOpA, lenA, ileb_cast, ileb_eq, ieqb_dec, indexAddrA, inB_dec, evPairs, storeA, AV.cellsOf, pairsOf, xI_nil, binBool, gcE, evOpt, xI_block, xI_loopH, xI_condM, xI_exitM, xI_skip, xI_blk, exitA, ty2, ty33, ty41, ty73, eK113_0_0]
  | succ m ih =>
    intro i R b k mm σ hi hR hB hk hS hL hD hP hr b1 b2 b3
    have hlt : ¬ w ≤ i := by omega
    have hlt' : ¬ (w : Int) ≤ (i : Int) := by omega
    have hlt2 : i < w := by omega
    have hw1 := wrapS (n := i) (by omega)
    have z1 := cv73 σ (i := w) hw
    have z2 : wrapA .i64 (shlA 1 (min w IntKind.i64.bits)) = ((pw w : Nat) : Int) := sh_1 (by omega)
    obtain ⟨r, k1, m1, σ1, c1, hr1, S1, hk1, n1, u1⟩ := c78 l hl hll k mm (by omega) (pw w) (by have := pw_le16 hw; omega) σ s hS
    have hr1 : r < pw w := by have := pw_ge1 w; omega
    have hL1 : LINB σ1 D (.int .i64 w) (.sl b 0 i i) (.int .i64 0) := hL.keep (u1 D hsD)
    have hR1 : Row σ1 b (nints R) := hr.keep (by omega) (u1 b b1)
    have hb := hR1.lt
    obtain ⟨x, hx⟩ : ∃ x, (if kind = 0 then (if i + 1 < w then pw (i + 1) else r) else if kind = 1 then orN (andN r (subN (pw i) 1)) (pw i) else r) = x := ⟨_, rfl⟩
    have hxl : x < pw w := by rw [← hx]; exact draw_row hw hlt2 hr1
    obtain ⟨σ2, hap, hr2, hn2, u2⟩ := nints_append_row (x := x) ty33 ty2 hR1 (n := i) hR.symm (by omega)
    have hL2 : LINB σ2 D (.int .i64 w) (.sl b 0 i i) (.int .i64 0) := hL1.keep (u2 D (fun e => b2 e.symm) (by omega))
    obtain ⟨σ3, c3, hL3, n3, u3⟩ := hL2.s1 (sl_one (σ1.n + 1) (i + 1))
    have e1 := hL1.c1
    obtain ⟨σ', b', R', k', m', h2, h3, h4, h5, h6, h7, h8, h9, h10, h11, h12, h13⟩ := ih (i + 1) (R ++ [x]) (σ1.n + 1) k1 m1 σ3 (by omega) (by simp [hR]) (fun t ht => by rcases List.mem_append.1 ht with h | h; exact hB t h; simp at h; rw [h]; exact hxl) (by omega)
      (S1.keep (by omega) ((u3 s (fun e => hsD e.symm)).trans (u2 s (fun e => b1 e.symm) (by have := hS.1; omega)))) hL3 (by omega) (by omega) (hr2.keep (by omega) (u3 _ (by omega))) (by have := hS.1; omega) (by omega) (by omega)
    refine ⟨σ', b', R', k', m', ?_, h3, h4, h5, h6, h7, by omega, h9, h10, h11, h12, fun c hc hcs => (h13 c hc hcs).trans ((u3 c (by omega)).trans ((u2 c (by omega) (by omega)).trans (u1 c hcs)))⟩
    rw [← h2]
    have k2 : wrapA .i64 (shlA 1 (min (i + 1) IntKind.i64.bits)) = ((pw (i + 1) : Nat) : Int) := sh_1 (by omega)
    have k4 : wrapA .i64 (shlA 1 (min i IntKind.i64.bits)) = ((pw i : Nat) : Int) := sh_1 (by omega)
    have y1 := cv73 σ1 (i := i + 1) (by omega)
    have y2 := cv73 σ1 (i := i) (by omega)
    have p1 := pw_ge1 i
    have p2 := pw_le16 (i := i) (by omega)
    have p3 := pw_le16 hw
    have k5 : wrapA .i64 (((pw i : Nat) : Int) - 1) = ((subN (pw i) 1 : Nat) : Int) := by rw [show ((pw i : Nat) : Int) - 1 = ((subN (pw i) 1 : Nat) : Int) from by show _ = ((pw i - 1 : Nat) : Int); omega]; exact n_wrap (by show pw i - 1 ≤ _; omega)
    have k6 : bitsA .and .i64 (r : Int) ((subN (pw i) 1 : Nat) : Int) = some (.int .i64 ((andN r (subN (pw i) 1) : Nat) : Int)) := n_and (by omega) (by show pw i - 1 ≤ _; omega)
    have k7 : bitsA .or .i64 ((andN r (subN (pw i) 1) : Nat) : Int) ((pw i : Nat) : Int) = some (.int .i64 ((orN (andN r (subN (pw i) 1)) (pw i) : Nat) : Int)) := n_or (by have : andN r (subN (pw i) 1) ≤ r := Nat.and_le_left; omega) (by omega)
    simp only [Int.natCast_add, show ((1 : Nat) : Int) = 1 from rfl] at y1
    by_cases hk0 : kind = 0
    · subst hk0
      simp only [show ((0 : Nat) : Int) = 0 from rfl]
      by_cases hi1 : i + 1 < w
      · rw [if_pos rfl, if_pos hi1] at hx
        subst hx
        have q1 : (i : Int) + 1 < (w : Int) := by omega
        have q0 : (0 : Int) ≤ (i : Int) + 1 := by omega
        have q2 : ¬ (w : Int) ≤ (i : Int) + 1 := by omega
        have q3 : ¬ w ≤ i + 1 := by omega
        rw [fi113]
        rw [xl113_0]
        simp only [B113_0, b113, Try.f113, Option.getD, fstC, sndC, bodyC, thnC, elsC]
        simp [xI_seq, xI_region, xI_ret, regA, regOps, runOps, opStep, wantedA, opA, evo, evos, calleeA, lk, nif_eq, putE, paramsE, valS, val2, keepE, restrict, finA, resA, binA, binInt, ofConst, ofConst1, loadA, TK.isAgg, asVar, unA, builtinA, lenOpA, lenA, ileb_cast, ileb_eq, ieqb_dec, indexAddrA, inB_dec, evPairs, storeA, AV.cellsOf, pairsOf, xI_nil, binBool, gcE, evOpt, xI_block, xI_loopH, xI_condM, xI_exitM, xI_skip, xI_blk, exitA, ty2, ty33, ty41, ty73, eK113_0_0, fieldAddrA, allOne, AV.one, n_push, ty2, ty3, ty5, ty29, ty33, ty41, ty73, ty94, ty145, ty147, hlt, hlt', hlt2, hw1, z1, z2, c1, q0, q1, q2, q3, hi1, y1, k2, e1, bs1, hap, c3]
      · rw [if_pos rfl, if_neg hi1] at hx
        subst hx
        have q1 : ¬ (i : Int) + 1 < (w : Int) := by omega
        have q2 : (w : Int) ≤ (i : Int) + 1 := by omega
        have q3 : w ≤ i + 1 := by omega
        rw [fi113]
        rw [xl113_0]
        simp only [B113_0, b113, Try.f113, Option.getD, fstC, sndC, bodyC, thnC, elsC]
        simp [xI_seq, xI_region, xI_ret, regA, regOps, runOps, opStep, wantedA, opA, evo, evos, calleeA, lk, nif_eq, putE, paramsE, valS, val2, keepE, restrict, finA, resA, binA, binInt, ofConst, ofConst1, loadA, TK.isAgg, asVar, unA, builtinA, lenOpA, lenA, ileb_cast, ileb_eq, ieqb_dec, indexAddrA, inB_dec, evPairs, storeA, AV.cellsOf, pairsOf, xI_nil, binBool, gcE, evOpt, xI_block, xI_loopH, xI_condM, xI_exitM, xI_skip, xI_blk, exitA, ty2, ty33, ty41, ty73, eK113_0_0, fieldAddrA, allOne, AV.one, n_push, ty2, ty3, ty5, ty29, ty33, ty41, ty73, ty94, ty145, ty147, hlt, hlt', hlt2, hw1, z1, z2, c1, q1, q2, q3, hi1, e1, bs1, hap, c3]
    · have g0 : ¬ (kind : Int) = 0 := by omega
      by_cases hk1 : kind = 1
      · subst hk1
        rw [if_neg hk0, if_pos rfl] at hx
        subst hx
        simp only [show ((1 : Nat) : Int) = 1 from rfl]
        rw [fi113]
        rw [xl113_0]
        simp only [B113_0, b113, Try.f113, Option.getD, fstC, sndC, bodyC, thnC, elsC]
        simp [xI_seq, xI_region, xI_ret, regA, regOps, runOps, opStep, wantedA, opA, evo, evos, calleeA, lk, nif_eq, putE, paramsE, valS, val2, keepE, restrict, finA, resA, binA, binInt, ofConst, ofConst1, loadA, TK.isAgg, asVar, unA, builtinA, lenOpA, lenA, ileb_cast, ileb_eq, ieqb_dec, indexAddrA, inB_dec, evPairs, storeA, AV.cellsOf, pairsOf, xI_nil, binBool, gcE, evOpt, xI_block, xI_loopH, xI_condM, xI_exitM, xI_skip, xI_blk, exitA, ty2, ty33, ty41, ty73, eK113_0_0, fieldAddrA, allOne, AV.one, n_push, ty2, ty3, ty5, ty29, ty33, ty41, ty73, ty94, ty145, ty147, hlt, hlt', hlt2, hw1, z1, z2, c1, y2, k4, k5, k6, k7, e1, bs1, hap, c3]
      · rw [if_neg hk0, if_neg hk1] at hx
        subst hx
        have g1 : ¬ (kind : Int) = 1 := by omega
        rw [fi113]
        rw [xl113_0]
        simp only [B113_0, b113, Try.f113, Option.getD, fstC, sndC, bodyC, thnC, elsC]
        simp [xI_seq, xI_region, xI_ret, regA, regOps, runOps, opStep, wantedA, opA, evo, evos, calleeA, lk, nif_eq, putE, paramsE, valS, val2, keepE, restrict, finA, resA, binA, binInt, ofConst, ofConst1, loadA, TK.isAgg, asVar, unA, builtinA, lenOpA, lenA, ileb_cast, ileb_eq, ieqb_dec, indexAddrA, inB_dec, evPairs, storeA, AV.cellsOf, pairsOf, xI_nil, binBool, gcE, evOpt, xI_block, xI_loopH, xI_condM, xI_exitM, xI_skip, xI_blk, exitA, ty2, ty33, ty41, ty73, eK113_0_0, fieldAddrA, allOne, AV.one, n_push, ty2, ty3, ty5, ty29, ty33, ty41, ty73, ty94, ty145, ty147, hlt, hlt', hlt2, hw1, z1, z2, c1, hk0, hk1, g0, g1, e1, bs1, hap, c3]
theorem c113 (l : List Nat) (hl : ∀ x ∈ l, x < 256) (hll : l.length ≤ 1000) (w : Nat) (hw : w ≤ 16) (hw1 : 1 ≤ w) (k mm : Nat) (hk : k ≤ 1000) (σ : St) (s : Nat) (hS : SRC σ s l k mm) :
    ∃ (b o : Nat) (R : List Nat) (σ' : St), callI TT 113 [.ptr s 0, .int .i64 w] σ = some (.agg [.int .i64 w, .sl b 0 w w, .int .i64 o], σ') ∧ R.length = w ∧ (∀ r ∈ R, r < pw w) ∧ o < pw w ∧ Row σ' b (nints R) ∧ ∀ c, c < σ.n → c ≠ s → σ'.get c = σ.get c := by
  have hs := hS.1
  have p1 := pw_ge1 w
  have p3 := pw_le16 hw
  have p2 : 1 < pw w := Nat.lt_of_lt_of_le (show 1 < 2 by decide) (Nat.pow_le_pow_right (show 0 < 2 by decide) hw1)
  obtain ⟨σ1, e1⟩ : ∃ σ1, σ.push ⟨[.int .i64 0, .nilS, .int .i64 0], 3, false⟩ = σ1 := ⟨_, rfl⟩
  have n1 : σ1.n = σ.n + 1 := by subst e1; rfl
  have P1 : LINB σ1 σ.n (.int .i64 0) .nilS (.int .i64 0) := by subst e1; exact get_push_same
  have S1 : SRC σ1 s l k mm := hS.keep (by omega) (by subst e1; exact get_push_lt hs)
  obtain ⟨σ2, e2⟩ : ∃ σ2, σ1.push ⟨ints [], 1, false⟩ = σ2 := ⟨_, rfl⟩
  have n2 : σ2.n = σ.n + 1 + 1 := by subst e2; show σ1.n + 1 = _; omega
  have P2 : LINB σ2 σ.n (.int .i64 0) .nilS (.int .i64 0) := P1.keep (by subst e2; exact get_push_lt (by omega))
  have S2 : SRC σ2 s l k mm := S1.keep (by omega) (by subst e2; exact get_push_lt (by omega))
  have R2 : Row σ2 σ1.n (nints []) := by subst e2; exact Row.push
  rw [n1] at R2
  obtain ⟨σ3, e3⟩ : ∃ σ3, σ2.push ⟨[.int .i64 0, .nilS, .int .i64 0], 3, false⟩ = σ3 := ⟨_, rfl⟩
  have n3 : σ3.n = σ.n + 1 + 1 + 1 := by subst e3; show σ2.n + 1 = _; omega
  have D3 : LINB σ3 (σ.n + 1 + 1) (.int .i64 0) .nilS (.int .i64 0) := by subst e3; rw [← n2]; exact get_push_same
  have P3 : LINB σ3 σ.n (.int .i64 0) .nilS (.int .i64 0) := P2.keep (by subst e3; exact get_push_lt (by omega))
  have S3 : SRC σ3 s l k mm := S2.keep (by omega) (by subst e3; exact get_push_lt (by omega))
  have R3 : Row σ3 (σ.n + 1) (nints []) := R2.keep (by omega) (by subst e3; exact get_push_lt (by omega))
  obtain ⟨σ4, c4, D4, n4, u4⟩ := D3.s3 (in_one w) (sl_one (σ.n + 1) 0) (in_one 0)
  have P4 : LINB σ4 σ.n (.int .i64 0) .nilS (.int .i64 0) := P3.keep (u4 _ (by omega))
  have S4 : SRC σ4 s l k mm := S3.keep (by omega) (u4 _ (by omega))
  have R4 : Row σ4 (σ.n + 1) (nints []) := R3.keep (by omega) (u4 _ (by omega))
  obtain ⟨kind, k5, m5, σ5, c5, _, S5, hk5, n5, u5⟩ := c78 l hl hll k mm (by omega) 3 (by decide) σ4 s S4
  have D5 := D4.keep (u5 (σ.n + 1 + 1) (by omega))
  have P5 := P4.keep (u5 σ.n (by omega))
  have R5 : Row σ5 (σ.n + 1) (nints []) := R4.keep (by omega) (u5 _ (by omega))
  obtain ⟨σ6, b, R, k6, m6, c6, hR, hB, hk6, S6, D6, n6, R6, b1, b2, b3, u6⟩ := l113 l hl hll w kind s σ.n (σ.n + 1 + 1) hw (by omega) (by omega) w 0 [] (σ.n + 1) k5 m5 σ5 (by omega) rfl (by simp) (by omega) S5 D5 (by omega) (by omega) R5 (by omega) (by omega) (by omega)
  have P6 := P5.keep (u6 σ.n (Nat.le_refl _) (by omega))
  have o6 : ∀ c, c < σ.n → c ≠ s → σ6.get c = σ.get c := fun c hc hcs => (u6 c (by omega) hcs).trans ((u5 c hcs).trans ((u4 c (by omega)).trans (by subst e3; rw [get_push_lt (by omega)]; subst e2; rw [get_push_lt (by omega)]; subst e1; exact get_push_lt hc)))
  obtain ⟨o1, k7, m7, σ7, c7, ho, S7, hk7, n7, u7⟩ := c78 l hl hll k6 m6 (by omega) (pw w) (by omega) σ6 s S6
  have D7 := D6.keep (u7 _ (by omega))
  have P7 := P6.keep (u7 _ (by omega))
  have R7 : Row σ7 b (nints R) := R6.keep (by omega) (u7 _ b1)
  have ho : o1 < pw w := by omega
  obtain ⟨σ8, c8, D8, n8, u8⟩ := D7.s2 (o1 : Int)
  have P8 := P7.keep (u8 _ (by omega))
  have R8 : Row σ8 b (nints R) := R7.keep (by omega) (u8 _ b2)
  have S8 := S7.keep (by omega) (u8 s (by omega))
  obtain ⟨q, k9, m9, σ9, c9, S9, hk9, n9, u9⟩ := c112 l hl hll k7 m7 (by omega) 2 (by decide) σ8 s S8
  have D9 := D8.keep (u9 _ (by omega))
  have P9 := P8.keep (u9 _ (by omega))
  have R9 : Row σ9 b (nints R) := R8.keep (by omega) (u9 _ b1)
  have z1 := cv73 σ6 (i := w) hw
  have z2 : wrapA .i64 (shlA 1 (min w IntKind.i64.bits)) = ((pw w : Nat) : Int) := sh_1 (by omega)
  simp only [show ((3 : Nat) : Int) = 3 from rfl] at c5
  simp only [show ((2 : Nat) : Int) = 2 from rfl] at c9
  simp only [show ((0 : Nat) : Int) = 0 from rfl] at c6
  cases q with
  | true =>
    obtain ⟨σA, cA, DA, nA, uA⟩ := D9.s2 1
    have PA := P9.keep (uA _ (by omega))
    have RA : Row σA b (nints R) := R9.keep (by omega) (uA _ b2)
    have g1 := DA.c3
    obtain ⟨σB, cB, PB, nB, uB⟩ := PA.s3 (in_one w) (sl_one b w) (in_one 1)
    have g2 := PB.c3
    refine ⟨b, 1, R, σB, ?_, hR, hB, p2, RA.keep (by omega) (uB _ (by omega)), fun c hc hcs => (uB c (by omega)).trans ((uA c (by omega)).trans ((u9 c hcs).trans ((u8 c (by omega)).trans ((u7 c hcs).trans (o6 c hc hcs)))))⟩
    have fin : exI TT (FI.of Try.f113 (TT.an 113)) R113_0_0 [(0, .ptr s 0), (1, .int .i64 w), (4, .ptr σ.n 0), (5, .ptr (σ.n + 1 + 1) 0), (6, .int .i64 kind), (7, .int .i64 w), (16, .bool false)] σ6 = some (.agg [.int .i64 w, .sl b 0 w w, .int .i64 1], σB) := by
      rw [fi113]
      simp only [R113_0_0, b113, Try.f113, Option.getD, fstC, sndC, bodyC, thnC, elsC]
      simp [xI_seq, xI_region, xI_ret, regA, regOps, runOps, opStep, wantedA, opA, evo, evos, calleeA, lk, nif_eq, putE, paramsE, valS, val2, keepE, restrict, finA, resA, binA, binInt, ofConst, ofConst1, loadA, TK.isAgg, asVar, unA, builtinA, lenOpA, lenA, ileb_cast, ileb_eq, ieqb_dec, indexAddrA, inB_dec, evPairs, storeA, AV.cellsOf, pairsOf, xI_nil, binBool, gcE, evOpt, xI_block, xI_loopH, xI_condM, xI_exitM, xI_skip, xI_blk, exitA, ty2, ty33, ty41, ty73, eK113_0_0, fieldAddrA, allOne, AV.one, n_push, ty2, ty3, ty5, ty29, ty33, ty41, ty73, ty94, ty145, ty147, z1, z2, c7, c8, c9, cA, g1, cB, g2]
    have all := c6.trans fin
    rw [cI_0 fn113 rfl md113, show ((1 : Nat) : Int) = 1 from rfl, ← all, fi113]
    simp [xI_seq, xI_region, xI_ret, regA, regOps, runOps, opStep, wantedA, opA, evo, evos, calleeA, lk, nif_eq, putE, paramsE, valS, val2, keepE, restrict, finA, resA, binA, binInt, ofConst, ofConst1, loadA, TK.isAgg, asVar, unA, builtinA, lenOpA, lenA, ileb_cast, ileb_eq, ieqb_dec, indexAddrA, inB_dec, evPairs, storeA, AV.cellsOf, pairsOf, xI_nil, binBool, gcE, evOpt, xI_block, xI_loopH, xI_condM, xI_exitM, xI_skip, xI_blk, exitA, ty2, ty33, ty41, ty73, eK113_0_0, fieldAddrA, allOne, AV.one, n_push, ty2, ty3, ty5, ty29, ty33, ty41, ty73, ty94, ty145, ty147, buildA, sizesOf, fillA, putCells, e1, n1, bn0, e2, n2, e3, n3, c4, c5]
    rfl
  | false =>
    have g1 := D9.c3
    obtain ⟨σB, cB, PB, nB, uB⟩ := P9.s3 (in_one w) (sl_one b w) (in_one o1)
    have g2 := PB.c3
    refine ⟨b, o1, R, σB, ?_, hR, hB, ho, R9.keep (by omega) (uB _ (by omega)), fun c hc hcs => (uB c (by omega)).trans ((u9 c hcs).trans ((u8 c (by omega)).trans ((u7 c hcs).trans (o6 c hc hcs))))⟩
    have fin : exI TT (FI.of Try.f113 (TT.an 113)) R113_0_0 [(0, .ptr s 0), (1, .int .i64 w), (4, .ptr σ.n 0), (5, .ptr (σ.n + 1 + 1) 0), (6, .int .i64 kind), (7, .int .i64 w), (16, .bool false)] σ6 = some (.agg [.int .i64 w, .sl b 0 w w, .int .i64 o1], σB) := by
      rw [fi113]
      simp only [R113_0_0, b113, Try.f113, Option.getD, fstC, sndC, bodyC, thnC, elsC]
      simp [xI_seq, xI_region, xI_ret, regA, regOps, runOps, opStep, wantedA, opA, evo, evos, calleeA, lk, nif_eq, putE, paramsE, valS, val2, keepE, restrict, finA, resA, binA, binInt, ofConst, ofConst1, loadA, TK.isAgg, asVar, unA, builtinA, lenOpA, lenA, ileb_cast, ileb_eq, ieqb_dec, indexAddrA, inB_dec, evPairs, storeA, AV.cellsOf, pairsOf, xI_nil, binBool, gcE, evOpt, xI_block, xI_loopH, xI_condM, xI_exitM, xI_skip, xI_blk, exitA, ty2, ty33, ty41, ty73, eK113_0_0, fieldAddrA, allOne, AV.one, n_push, ty2, ty3, ty5, ty29, ty33, ty41, ty73, ty94, ty145, ty147, z1, z2, c7, c8, c9, g1, cB, g2]
    have all := c6.trans fin
    rw [cI_0 fn113 rfl md113, ← all, fi113]
    simp [xI_seq, xI_region, xI_ret, regA, regOps, runOps, opStep, wantedA, opA, evo, evos, calleeA, lk, nif_eq, putE, paramsE, valS, val2, keepE, restrict, finA, resA, binA, binInt, ofConst, ofConst1, loadA, TK.isAgg, asVar, unA, builtinA, lenOpA, lenA, ileb_cast, ileb_eq, ieqb_dec, indexAddrA, inB_dec, evPairs, storeA, AV.cellsOf, pairsOf, xI_nil, binBool, gcE, evOpt, xI_block, xI_loopH, xI_condM, xI_exitM, xI_skip, xI_blk, exitA, ty2, ty33, ty41, ty73, eK113_0_0, fieldAddrA, allOne, AV.one, n_push, ty2, ty3, ty5, ty29, ty33, ty41, ty73, ty94, ty145, ty147, buildA, sizesOf, fillA, putCells, e1, n1, bn0, e2, n2, e3, n3, c4, c5]
    rfl
theorem frz_lin {σ : St} {b w : Nat} {o : Int} {R : List Nat} (h : Row σ b (nints R)) (hw : R.length = w) : frzV σ frzDepth (.agg [.int .i64 w, .sl b 0 w w, .int .i64 o]) = some (.agg (lin w (nints R) o)) := by
  rw [lin_eq, nints_length, hw]
  exact frzV_agg (mapO_cons rfl (mapO_cons (h.frz (by rw [nints_length, hw]) (Nat.le_refl _)) (mapO_cons rfl rfl)))

theorem v63 (l : List Nat) (hl : ∀ x ∈ l, x < 256) (hll : l.length ≤ 1000) : ∃ (A : List Nat) (k : Nat), 1 ≤ A.length ∧ A.length ≤ 7 ∧ (∀ r ∈ A, r < pw A.length) ∧ k < pw A.length ∧ FnF TT 63 [.lst l.length (byts l)] (.agg (lin A.length (nints A) k)) := by
  obtain ⟨σ1, e1⟩ : ∃ σ1, (⟨[], 0⟩ : St).push ⟨[.int .i64 0, .nilS, .int .i64 0], 3, false⟩ = σ1 := ⟨_, rfl⟩
  have n1 : σ1.n = 1 := by subst e1; rfl
  have P1 : LINB σ1 0 (.int .i64 0) .nilS (.int .i64 0) := by subst e1; exact get_push_same
  obtain ⟨σ2, c2, S2, n2, o2⟩ := c77 l σ1
  rw [n1] at c2 S2
  have P2 := P1.keep (o2.2 0 (by omega))
  obtain ⟨x, k3, m3, σ3, c3, hx, S3, hk3, n3, u3⟩ := c78 l hl hll 0 0 (by decide) 7 (by decide) σ2 1 S2
  have hx : x < 7 := by omega
  have P3 := P2.keep (u3 0 (by decide))
  obtain ⟨q, k4, m4, σ4, c4, S4, hk4, n4, u4⟩ := c112 l hl hll k3 m3 (by omega) 4 (by decide) σ3 1 S3
  have P4 := P3.keep (u4 0 (by decide))
  have w0 : wrapA .i64 (1 + (x : Int)) = ((addN 1 x : Nat) : Int) := n_wrap (a := addN 1 x) (by show 1 + x ≤ _; omega)
  have hw1 : 1 ≤ addN 1 x := by show 1 ≤ 1 + x; omega
  have hw7 : addN 1 x ≤ 7 := by show 1 + x ≤ 7; omega
  generalize addN 1 x = w at *
  simp only [show ((7 : Nat) : Int) = 7 from rfl] at c3
  simp only [show ((4 : Nat) : Int) = 4 from rfl] at c4
  have p2 : 1 < pw w := Nat.lt_of_lt_of_le (show 1 < 2 by decide) (Nat.pow_le_pow_right (show 0 < 2 by decide) hw1)
  cases q with
  | false =>
    obtain ⟨b, o, R, σ5, c5, hR, hB, ho, r5, u5⟩ := c113 l hl hll w (by omega) hw1 k4 m4 (by omega) σ4 1 S4
    have P5 := P4.keep (u5 0 (by omega) (by decide))
    obtain ⟨σ6, c6, P6, n6, u6⟩ := P5.s3 (in_one w) (sl_one b w) (in_one o)
    have g2 := P6.c3
    have b0 : b ≠ 0 := by
      rintro rfl
      obtain ⟨q, hq, _⟩ := r5
      rw [(show σ5.get 0 = _ from P5)] at hq
      simp at hq
    refine ⟨R, o, by omega, by omega, by rw [hR]; exact hB, by rw [hR]; exact ho, FnF.mk fn63 rfl md63 ⟨σ6, .agg [.int .i64 w, .sl b 0 w w, .int .i64 o], ?_, by rw [hR]; exact frz_lin (r5.keep (by omega) (u6 _ b0)) hR⟩⟩
    rw [fi63]
    simp [xI_seq, xI_region, xI_ret, regA, regOps, runOps, opStep, wantedA, opA, evo, evos, calleeA, lk, nif_eq, putE, paramsE, valS, val2, keepE, restrict, finA, resA, binA, binInt, ofConst, ofConst1, loadA, TK.isAgg, asVar, unA, builtinA, lenOpA, lenA, ileb_cast, ileb_eq, ieqb_dec, indexAddrA, inB_dec, evPairs, storeA, AV.cellsOf, pairsOf, xI_nil, binBool, gcE, evOpt, xI_block, xI_loopH, xI_condM, xI_exitM, xI_skip, xI_blk, exitA, ty2, ty41, fieldAddrA, allOne, AV.one, n_push, ty2, ty3, ty5, ty29, ty33, ty41, ty73, ty94, ty145, ty147, e1, n1, c2, c3, w0, c4, c5, c6, g2]
  | true =>
    have w1 := wrapS (n := w) (by omega)
    obtain ⟨a, k5, m5, σ5, c5, ha, S5, hk5, n5, u5⟩ := c78 l hl hll k4 m4 (by omega) (w + 1) (by omega) σ4 1 S4
    have P5 := P4.keep (u5 0 (by decide))
    obtain ⟨b, k6, m6, σ6, c6, hb, S6, hk6, n6, u6⟩ := c78 l hl hll k5 m5 (by omega) (w + 1) (by omega) σ5 1 S5
    have P6 := P5.keep (u6 0 (by decide))
    obtain ⟨c, k7, m7, σ7, c7, hc, S7, hk7, n7, u7⟩ := c78 l hl hll k6 m6 (by omega) (w + 1) (by omega) σ6 1 S6
    have P7 := P6.keep (u7 0 (by decide))
    have ha : a ≤ w := by omega
    have hb : b ≤ w := by omega
    have hc : c ≤ w := by omega
    have ok : xsOk (w : Int) a b c = true := by
      simp only [xsOk, Bool.and_eq_true]
      exact ⟨inR_iff.2 ⟨by omega, by omega⟩, ⟨inR_iff.2 ⟨by omega, by omega⟩, inR_iff.2 ⟨by omega, by omega⟩⟩, inR_iff.2 ⟨by omega, by omega⟩⟩
    obtain ⟨q, c8⟩ := o51 w a b c σ7 [.int .i64 w, .int .i64 a, .int .i64 b, .int .i64 c] rfl
    rw [xsR_yes ok] at c8
    have hL : (xsL w a b c).length = w := by simp [xsL]
    have hB : ∀ r ∈ xsL w a b c, r < pw w := by
      intro r hr
      obtain ⟨i, _, rfl⟩ := List.mem_map.1 hr
      exact bitRow_lt w a b c i w
    simp only [linR, nints_length, hL] at c8
    obtain ⟨σ8, e8⟩ : ∃ σ8, σ7.push ⟨ints (nints (xsL w a b c)), 1, q⟩ = σ8 := ⟨_, rfl⟩
    rw [e8] at c8
    have h07 : 0 < σ7.n := by omega
    have n8 : σ8.n = σ7.n + 1 := by subst e8; rfl
    have P8 := P7.keep (σ' := σ8) (by subst e8; exact get_push_lt h07)
    have R8 : Row σ8 σ7.n (nints (xsL w a b c)) := by subst e8; exact Row.push
    obtain ⟨σ9, e9⟩ : ∃ σ9, σ8.push ⟨[.int .i64 0, .nilS, .int .i64 0], 3, false⟩ = σ9 := ⟨_, rfl⟩
    have n9 : σ9.n = σ8.n + 1 := by subst e9; rfl
    have P9 := P8.keep (σ' := σ9) (by subst e9; exact get_push_lt (by omega))
    have R9 : Row σ9 σ7.n (nints (xsL w a b c)) := by subst e9; exact R8.pushed
    have D9 : LINB σ9 σ8.n (.int .i64 0) .nilS (.int .i64 0) := by subst e9; exact get_push_same
    obtain ⟨σA, cA, DA, nA, uA⟩ := D9.s3 (in_one w) (sl_one σ7.n w) (in_one 1)
    have PA := P9.keep (uA 0 (by omega))
    have RA : Row σA σ7.n (nints (xsL w a b c)) := R9.keep (by omega) (uA _ (by omega))
    have g1 := DA.c3
    obtain ⟨σB, cB, PB, nB, uB⟩ := PA.s3 (in_one w) (sl_one σ7.n w) (in_one 1)
    have RB : Row σB σ7.n (nints (xsL w a b c)) := RA.keep (by omega) (uB _ (by omega))
    have g2 := PB.c3
    refine ⟨xsL w a b c, 1, by omega, by omega, by rw [hL]; exact hB, by rw [hL]; exact p2, FnF.mk fn63 rfl md63 ⟨σB, .agg [.int .i64 w, .sl σ7.n 0 w w, .int .i64 1], ?_, by rw [hL]; exact frz_lin RB hL⟩⟩
    simp only [Int.natCast_add, show ((1 : Nat) : Int) = 1 from rfl] at c5 c6 c7
    rw [fi63]
    simp [xI_seq, xI_region, xI_ret, regA, regOps, runOps, opStep, wantedA, opA, evo, evos, calleeA, lk, nif_eq, putE, paramsE, valS, val2, keepE, restrict, finA, resA, binA, binInt, ofConst, ofConst1, loadA, TK.isAgg, asVar, unA, builtinA, lenOpA, lenA, ileb_cast, ileb_eq, ieqb_dec, indexAddrA, inB_dec, evPairs, storeA, AV.cellsOf, pairsOf, xI_nil, binBool, gcE, evOpt, xI_block, xI_loopH, xI_condM, xI_exitM, xI_skip, xI_blk, exitA, ty2, ty41, fieldAddrA, allOne, AV.one, n_push, ty2, ty3, ty5, ty29, ty33, ty41, ty73, ty94, ty145, ty147, e1, n1, c2, c3, w0, c4, w1, c5, c6, c7, c8, e9, cA, g1, cB, g2]
theorem lin_ok {A : List Nat} {k : Nat} (h1 : 1 ≤ A.length) (h2 : A.length ≤ 16) (hA : ∀ r ∈ A, r < pw A.length) (hk : k < pw A.length) : vlin A.length (nints A) k = true := by
  have p := pw_ge1 A.length
  simp only [vlin, Bool.and_eq_true, decide_eq_true_eq, nints_length, Int.toNat_natCast]
  refine ⟨⟨⟨inR_iff.2 ⟨by omega, by omega⟩, trivial⟩, ?_⟩, inR_iff.2 ⟨by omega, by omega⟩⟩
  rw [allR, List.all_eq_true]
  intro t ht
  obtain ⟨u, hu, rfl⟩ := List.mem_map.1 ht
  have := hA u hu
  exact inR_iff.2 ⟨by omega, by omega⟩

open Go.Wd
theorem FnV.now {T : Tab} {f : FuncId} {args : List AV} {v : AV} (h : FnV T f args v) (ha : ∀ σ, mapO (frzV σ frzDepth) args = some args) (σ : St) : callI T f args σ = some (v, σ) := h σ args (ha σ)
/-- A valid machine. -/
structure Mach (A : List Nat) (k : Nat) : Prop where
  one : 1 ≤ A.length
  few : A.length ≤ 16
  rows : ∀ r ∈ A, r < pw A.length
  out : k < pw A.length
/-- ... as a value. -/
def mach (A : List Nat) (k : Nat) : AV := .agg [.int .i64 A.length, .lst A.length (ints (nints A)), .int .i64 k]
theorem mach_eq (A : List Nat) (k : Nat) : AV.agg (lin A.length (nints A) k) = mach A k := by rw [lin_eq, nints_length]; rfl
theorem Mach.ok {A : List Nat} {k : Nat} (h : Mach A k) : vlin A.length (nints A) k = true := lin_ok h.one h.few h.rows h.out
theorem Mach.vs {A : List Nat} {k t : Nat} (h : Mach A k) (ht : t < pw A.length) : vst A.length (nints A) k t = true := by
  simp only [vst, Bool.and_eq_true]
  exact ⟨h.ok, inR_iff.2 ⟨by omega, by simp only [Int.toNat_natCast]; omega⟩⟩
theorem Mach.len {A : List Nat} {k : Nat} (h : Mach A k) : (nints A).length < 3000000 := by rw [nints_length]; have := h.few; omega
theorem m54 {A : List Nat} {k t : Nat} (h : Mach A k) (ht : t < pw A.length) (σ : St) : callI TT 54 [mach A k, .int .i64 t] σ = some (.tup [.int .i64 (app A t : Nat), .int .i64 (par (andN k t) : Nat), .bool true], σ) := by
  have := FnV.now (v54 A.length (nints A) k t h.len) (fun _ => rfl) σ
  rwa [h.vs ht, st1_yes (h.vs ht), st2_yes (h.vs ht), mach_eq] at this
theorem m56 {A : List Nat} {k t n : Nat} (h : Mach A k) (ht : t < pw A.length) (hn : n ≤ 400) (σ : St) : callI TT 56 [mach A k, .int .i64 t, .int .i64 n] σ = some (.tup [.str (outB A k n t), .bool true], σ) := by
  have ok : lbOk A.length (nints A) k t n = true := by simp only [lbOk, Bool.and_eq_true]; exact ⟨h.vs ht, inR_iff.2 ⟨by omega, by omega⟩⟩
  have := FnV.now (v56 A.length (nints A) k t n h.len) (fun _ => rfl) σ
  rwa [ok, lbV_yes ok, mach_eq] at this
theorem m60 {A : List Nat} {k t n : Nat} (h : Mach A k) (ht : t < pw A.length) (hn : n ≤ 1000000000000000000) (σ : St) : callI TT 60 [mach A k, .int .i64 t, .int .i64 n] σ = some (.tup [.int .i64 (steps A n t : Nat), .bool true], σ) := by
  have ok : jpOk A.length (nints A) k t n = true := by simp only [jpOk, Bool.and_eq_true]; exact ⟨h.vs ht, inR_iff.2 ⟨by omega, by omega⟩⟩
  have := FnV.now (v60 A.length (nints A) k t n h.len) (fun _ => rfl) σ
  rwa [ok, jpV_yes ok, mach_eq, jump_steps 63 A t n (by have := h.few; omega) (by have : (2 : Nat) ^ 63 = 9223372036854775808 := by decide
                                                                                  omega)] at this
theorem outB_get (A : List Nat) (k : Nat) : ∀ (n i t : Nat), i < n → (outB A k n t)[i]? = some (bb (par (andN k (steps A i t))))
  | 0, _, _, h => absurd h (by omega)
  | n + 1, 0, t, _ => rfl
  | n + 1, i + 1, t, h => by
    simp only [outB, List.getElem?_cons_succ]
    exact outB_get A k n i (app A t) (by omega)
/-! Steps back -/
theorem eqF_sol {w s x : Nat} (hw : w < 64) (hx : x < 2 ^ w) : ∀ (l : List Nat) (i : Nat), (∀ r ∈ l, r < 2 ^ w) → (SolS w (eqF w s i l) x ↔ app l x = s / 2 ^ i % 2 ^ l.length)
  | [], i, _ => by simp [SolS, eqF, app, Nat.mod_one]
  | r :: l, i, hr => by
    have ih := eqF_sol (s := s) hw hx l (i + 1) (fun a ha => hr a (by simp [ha]))
    have hb : s / 2 ^ i % 2 ≤ 1 := by omega
    have he := par_eqn hw (hr r (by simp)) hx hb
    have hp := par_lt (r &&& x)
    have h0 : SolS w (eqF w s i (r :: l)) x ↔ (par ((r ||| s / 2 ^ i % 2 * 2 ^ w) &&& (x ||| 2 ^ w)) = 0 ∧ SolS w (eqF w s (i + 1) l) x) := by
      show (∀ e ∈ _ :: _, _) ↔ _
      rw [List.forall_mem_cons]
      rfl
    have h3 : s / 2 ^ i % 2 ^ (l.length + 1) = s / 2 ^ i % 2 + 2 * (s / 2 ^ (i + 1) % 2 ^ l.length) := by
      rw [Nat.pow_succ, Nat.mul_comm (2 ^ l.length) 2, Nat.mod_mul, Nat.div_div_eq_div_mul, ← Nat.pow_succ]
    rw [h0, ih, he, List.length_cons, h3]
    show _ ↔ par (r &&& x) + 2 * app l x = _
    generalize par (r &&& x) = a at *
    generalize s / 2 ^ i % 2 = b at *
    generalize s / 2 ^ (i + 1) % 2 ^ l.length = d
    have hx0 : a ^^^ b = 0 ↔ a = b := by
      rcases (show a = 0 ∨ a = 1 by omega) with rfl | rfl <;> rcases (show b = 0 ∨ b = 1 by omega) with rfl | rfl <;> decide
    rw [hx0]
    omega
def back (A : List Nat) (t : Nat) : Option Nat := match addAll A.length [] (eqF A.length t 0 A) with | some rows => if rows.length < A.length then none else some (least A.length rows) | none => none
theorem back_bound {A : List Nat} {k t : Nat} (h : Mach A k) : ∀ e ∈ eqF A.length t 0 A, e < 2 ^ (A.length + 1) := eqF_lt h.rows
theorem back_app {A : List Nat} {k t x : Nat} (h : Mach A k) (ht : t < pw A.length) : Sol A.length (eqF A.length t 0 A) (x ||| 2 ^ A.length) → x < 2 ^ A.length → app A x = t := by
  intro hs hx
  have := (eqF_sol (s := t) (by have := h.few; omega) hx A 0 h.rows).1 ((sol_full hx).1 hs)
  rwa [Nat.pow_zero, Nat.div_one, Nat.mod_eq_of_lt (show t < 2 ^ A.length from ht)] at this
theorem app_back {A : List Nat} {k t x : Nat} (h : Mach A k) (ht : t < pw A.length) (hx : x < 2 ^ A.length) (e : app A x = t) : Sol A.length (eqF A.length t 0 A) (x ||| 2 ^ A.length) := by
  refine (sol_full hx).2 ((eqF_sol (s := t) (by have := h.few; omega) hx A 0 h.rows).2 ?_)
  rw [Nat.pow_zero, Nat.div_one, Nat.mod_eq_of_lt (show t < 2 ^ A.length from ht)]; exact e
theorem back_some {A : List Nat} {k t x : Nat} (h : Mach A k) (ht : t < pw A.length) (hb : back A t = some x) : x < pw A.length ∧ app A x = t ∧ ∀ z, z < pw A.length → app A z = 0 → z = 0 := by
  have hw : A.length < 64 := by have := h.few; omega
  unfold back at hb
  cases ha : addAll A.length [] (eqF A.length t 0 A) with
  | none => rw [ha] at hb; cases hb
  | some rows =>
    rw [ha] at hb
    simp only at hb
    obtain ⟨_, _, h3, h4, h5⟩ := (addAll_can hw (back_bound h)).2 rows ha
    split at hb
    · cases hb
    · rename_i hlen
      cases hb
      obtain ⟨s1, s2, _⟩ := least_sol hw h4
      have hx := back_app h ht ((h5 _).1 s1) s2
      refine ⟨s2, hx, fun z hz h0 => ?_⟩
      have hz2 : least A.length rows ^^^ z < 2 ^ A.length := Nat.xor_lt_two_pow s2 hz
      have e := full_rank hw h4 (by omega) s1 ((h5 _).2 (app_back h ht hz2 (by rw [app_xor, h0, hx, Nat.xor_zero])))
      have e2 := full_inj s2 hz2 e
      have e3 : least A.length rows ^^^ least A.length rows = least A.length rows ^^^ (least A.length rows ^^^ z) := by rw [← e2]
      rw [Nat.xor_self, ← Nat.xor_assoc, Nat.xor_self, Nat.zero_xor] at e3
      exact e3.symm
theorem back_all {A : List Nat} {k t : Nat} (h : Mach A k) (ht : t < pw A.length) (hi : ∀ z, z < pw A.length → app A z = 0 → z = 0) : ∃ x, back A t = some x := by
  have hw : A.length < 64 := by have := h.few; omega
  obtain ⟨x, hx, ex⟩ := onto (N := pw A.length) (f := app A) (fun x _ => app_lt A x) (fun a ha b hb e => by
    have hab : a ^^^ b < pw A.length := Nat.xor_lt_two_pow ha hb
    have h0 := hi (a ^^^ b) hab (by rw [app_xor, e, Nat.xor_self])
    have e3 : a ^^^ (a ^^^ b) = a ^^^ 0 := by rw [h0]
    rw [← Nat.xor_assoc, Nat.xor_self, Nat.zero_xor, Nat.xor_zero] at e3
    exact e3.symm) ht
  have hs := app_back h ht hx ex
  cases ha : addAll A.length [] (eqF A.length t 0 A) with
  | none => exact absurd ⟨_, by simpa using hs⟩ (addAll_none hw _ [] (red_nil _) (back_bound h) ha)
  | some rows =>
    obtain ⟨_, _, h3, h4, h5⟩ := (addAll_can hw (back_bound h)).2 rows ha
    by_cases hlen : rows.length < A.length
    · exfalso
      obtain ⟨X, Y, hX, hY, hne⟩ := free_rank hw h4 hlen
      have fX := full_of hX.1 hX.2.1
      have fY := full_of hY.1 hY.2.1
      have lX : X % 2 ^ A.length < 2 ^ A.length := Nat.mod_lt _ (Nat.two_pow_pos _)
      have lY : Y % 2 ^ A.length < 2 ^ A.length := Nat.mod_lt _ (Nat.two_pow_pos _)
      rw [fX] at hX
      rw [fY] at hY
      have aX := back_app h ht ((h5 _).1 hX) lX
      have aY := back_app h ht ((h5 _).1 hY) lY
      have hz := hi _ (Nat.xor_lt_two_pow lX lY) (by rw [app_xor, aX, aY, Nat.xor_self])
      have e3 : X % 2 ^ A.length ^^^ (X % 2 ^ A.length ^^^ Y % 2 ^ A.length) = X % 2 ^ A.length ^^^ 0 := by rw [hz]
      rw [← Nat.xor_assoc, Nat.xor_self, Nat.zero_xor, Nat.xor_zero] at e3
      exact hne (by rw [fX, fY, e3])
    · exact ⟨least A.length rows, by unfold back; rw [ha]; exact if_neg hlen⟩
theorem m62 {A : List Nat} {k t : Nat} (h : Mach A k) (ht : t < pw A.length) (σ : St) : ∃ x : Nat, callI TT 62 [mach A k, .int .i64 t] σ = some (.tup [.int .i64 x, .bool (back A t).isSome], σ) ∧ ((back A t).isSome = true → x < pw A.length ∧ app A x = t) := by
  have := FnV.now (v62 A.length (nints A) k t h.len) (fun _ => rfl) σ
  rw [mach_eq] at this
  have e : bk A.length (nints A) k t = back A t := bk_yes (h.vs ht)
  have ev : bkV A.length (nints A) k t = ((back A t).getD 0 : Nat) := by rw [bkV, e]; cases back A t <;> rfl
  rw [e, ev] at this
  refine ⟨_, this, fun hs => ?_⟩
  obtain ⟨x, hx⟩ := Option.isSome_iff_exists.1 hs
  obtain ⟨h1, h2, _⟩ := back_some h ht hx
  rw [hx]
  exact ⟨h1, h2⟩
theorem back_same {A : List Nat} {k t u : Nat} (h : Mach A k) (ht : t < pw A.length) (hu : u < pw A.length) : (back A t).isSome = (back A u).isSome := by
  have key : ∀ t u, t < pw A.length → u < pw A.length → (back A t).isSome = true → (back A u).isSome = true := fun t u ht hu hs => by
    obtain ⟨x, hx⟩ := Option.isSome_iff_exists.1 hs
    obtain ⟨_, _, h3⟩ := back_some h ht hx
    exact Option.isSome_iff_exists.2 (back_all h hu h3)
  rw [Bool.eq_iff_iff]
  exact ⟨key t u ht hu, key u t hu ht⟩

noncomputable def b17 : Code := Try.f17.body.getD .skip
noncomputable def B17_0 : Code := (bodyC (bodyC (sndC (fstC (sndC (sndC (sndC (sndC (sndC (sndC (sndC b17)))))))))))
noncomputable def K17_0 : List It := .lp B17_0 :: .blk 0 :: .code (sndC (sndC (sndC (sndC (sndC (sndC (sndC (sndC b17)))))))) :: []
theorem xl17_0 {fi : FI} {env : Env} {σ : St} : exI TT fi K17_0 env σ = exI TT fi (.code B17_0 :: K17_0) env σ := by unfold K17_0; exact xI_lp
noncomputable def R17_0_0 : List It := .code (sndC (sndC (sndC (sndC (sndC (sndC (sndC (sndC b17)))))))) :: []
theorem eK17_0_0 : exitA 0 K17_0 = some R17_0_0 := rfl
theorem bb_off {p : Nat} (h : p < 2) : wrapA .i64 (wrapA .u8 ((((bb p).toNat : Nat) : Int) - 48)) = (p : Int) := by
  rw [bb_nat h]
  rcases (show p = 0 ∨ p = 1 by omega) with rfl | rfl <;> decide
theorem l17 {A : List Nat} {k : Nat} (h : Mach A k) (t : Nat) (ht : t < pw A.length) (v : AV) (σ : St) (hg : cellsAt σ (.ptr 0 0) 3 = some [.int .i64 A.length, .lst A.length (ints (nints A)), .int .i64 k]) (S : List UInt8) (hS : S = outB A k 12 t) : ∀ (m i : Nat), i + m = 12 →
    exI TT (FI.of Try.f17 (TT.an 17)) K17_0 [(1, v), (5, .ptr 0 0), (6, .int .i64 t), (7, .str S), (9, .int .i64 (steps A i t : Nat)), (10, .int .i64 i)] σ = exI TT (FI.of Try.f17 (TT.an 17)) R17_0_0 [(1, v), (5, .ptr 0 0), (6, .int .i64 t), (7, .str S), (9, .int .i64 (steps A 12 t : Nat)), (10, .int .i64 12), (62, .bool false)] σ := by
  intro m
  induction m with
  | zero =>
    intro i hi
    obtain rfl : i = 12 := by omega
    simp only [show ((12 : Nat) : Int) = 12 from rfl]
    generalize steps A 12 t = z
    rw [fi17]
    rw [xl17_0]
    simp only [B17_0, b17, Try.f17, Option.getD, fstC, sndC, bodyC, thnC, elsC]
    simp [xI_seq, xI_region, xI_ret, regA, regOps, runOps, opStep, wantedA, opA, evo, evos, calleeA, lk, nif_eq, putE, paramsE, valS, val2, keepE, restrict, finA, resA, binA, binInt, ofConst, ofConst1, loadA, TK.isAgg, asVar, unA, builtinA, lenOpA, lenA, ileb_cast, ileb_eq, ieqb_dec, indexAddrA, inB_dec, evPairs, storeA, AV.cellsOf, pairsOf, xI_nil, binBool, gcE, evOpt, xI_block, xI_loopH, xI_condM, xI_exitM, xI_skip, xI_blk, exitA, ty2, ty3, ty4, ty5, ty9, ty41, ty73, eK17_0_0]
  | succ m ih =>
    intro i hi
    have hlt : ¬ (12 : Int) ≤ (i : Int) := by omega
    have hlt2 : (i : Int) < 12 := by omega
    have hw := wrapS (n := i) (by omega)
    have h0 : (0 : Int) ≤ (i : Int) := by omega
    have hs : steps A i t < pw A.length := steps_lt i ht
    have hget : S[i]? = some (bb (par (andN k (steps A i t)))) := by rw [hS]; exact outB_get A k 12 i t (by omega)
    have c1 := m60 h ht (n := i) (by omega) σ
    have c2 := m54 h hs σ
    rw [← steps_one] at c2
    have hp := par_lt (andN k (steps A i t))
    have b1 := bb_off hp
    have h1 := ih (i + 1) (by omega)
    simp only [mach] at c1 c2
    simp only [Int.natCast_add, show ((1 : Nat) : Int) = 1 from rfl] at h1
    generalize par (andN k (steps A i t)) = q at *
    generalize steps A i t = now at *
    generalize steps A (i + 1) t = next at *
    generalize steps A 12 t = last at *
    rw [fi17] at h1 ⊢
    rw [xl17_0]
    simp only [B17_0, b17, Try.f17, Option.getD, fstC, sndC, bodyC, thnC, elsC]
    simp [xI_seq, xI_region, xI_ret, regA, regOps, runOps, opStep, wantedA, opA, evo, evos, calleeA, lk, nif_eq, putE, paramsE, valS, val2, keepE, restrict, finA, resA, binA, binInt, ofConst, ofConst1, loadA, TK.isAgg, asVar, unA, builtinA, lenOpA, lenA, ileb_cast, ileb_eq, ieqb_dec, indexAddrA, inB_dec, evPairs, storeA, AV.cellsOf, pairsOf, xI_nil, binBool, gcE, evOpt, xI_block, xI_loopH, xI_condM, xI_exitM, xI_skip, xI_blk, exitA, ty2, ty3, ty4, ty5, ty9, ty41, ty73, eK17_0_0, fieldAddrA, allOne, AV.one, indexA, convA, ty2, ty3, ty4, ty5, ty9, ty29, ty33, ty41, ty73, hlt, hlt2, hw, h0, hg, hget, c1, c2, b1]
    simpa using h1
theorem v17 (code : List Nat) (hb : ∀ x ∈ code, x < 256) (more : List Nat) (hm : ∀ x ∈ more, x < 256) : FnV TT 17 [.lst code.length (byts code), .lst more.length (byts more)] (.bool true) := by
  have eL := FnV.now (v25 code more) (fun _ => rfl)
  by_cases hlg : 48 < code.length ∨ 48 < more.length
  · have hlg' : (decide (48 < code.length) || decide (48 < more.length)) = true := by simpa using hlg
    rw [hlg'] at eL
    refine FnV.mk fn17 rfl md17 ⟨⟨[], 0⟩, ?_⟩ (fun _ => rfl) rfl
    rw [fi17]
    simp [xI_seq, xI_region, xI_ret, regA, regOps, runOps, opStep, wantedA, opA, evo, evos, calleeA, lk, nif_eq, putE, paramsE, valS, val2, keepE, restrict, finA, resA, binA, binInt, ofConst, ofConst1, loadA, TK.isAgg, asVar, unA, builtinA, lenOpA, lenA, ileb_cast, ileb_eq, ieqb_dec, indexAddrA, inB_dec, evPairs, storeA, AV.cellsOf, pairsOf, xI_nil, binBool, gcE, evOpt, xI_block, xI_loopH, xI_condM, xI_exitM, xI_skip, xI_blk, exitA, ty2, ty3, ty4, ty5, ty9, ty41, ty73, eK17_0_0, eL]
  · have hlg' : (decide (48 < code.length) || decide (48 < more.length)) = false := by simpa using hlg
    rw [hlg'] at eL
    obtain ⟨A, k, g1, g2, g3, g4, eM⟩ := v63 code hb (by omega)
    have h : Mach A k := ⟨g1, by omega, g3, g4⟩
    have eM := fun σ => eM σ [.lst code.length (byts code)] rfl rfl
    rw [mach_eq] at eM
    have p1 := pw_ge1 A.length
    have p3 := pw_le16 h.few
    obtain ⟨t, ht, et⟩ := v26 more hm (by omega) (pw A.length) (by omega)
    have ht : t < pw A.length := by omega
    replace et := FnV.now et (fun _ => rfl)
    obtain ⟨r2, h2, e2⟩ := v27 more hm (by omega) 2 (by decide) 256 (by decide)
    obtain ⟨r3, h3, e3⟩ := v27 more hm (by omega) 3 (by decide) 256 (by decide)
    obtain ⟨r4, h4, e4⟩ := v27 more hm (by omega) 4 (by decide) 256 (by decide)
    obtain ⟨r5, h5, e5⟩ := v27 more hm (by omega) 5 (by decide) 256 (by decide)
    replace e2 := FnV.now e2 (fun _ => rfl)
    replace e3 := FnV.now e3 (fun _ => rfl)
    replace e4 := FnV.now e4 (fun _ => rfl)
    replace e5 := FnV.now e5 (fun _ => rfl)
    simp only [show ((2 : Nat) : Int) = 2 from rfl, show ((256 : Nat) : Int) = 256 from rfl] at e2
    simp only [show ((3 : Nat) : Int) = 3 from rfl, show ((256 : Nat) : Int) = 256 from rfl] at e3
    simp only [show ((4 : Nat) : Int) = 4 from rfl, show ((256 : Nat) : Int) = 256 from rfl] at e4
    simp only [show ((5 : Nat) : Int) = 5 from rfl, show ((256 : Nat) : Int) = 256 from rfl] at e5
    have h2 : r2 ≤ 255 := by simp at h2; omega
    have h3 : r3 ≤ 255 := by simp at h3; omega
    have h4 : r4 ≤ 255 := by simp at h4; omega
    have h5 : r5 ≤ 255 := by simp at h5; omega
    have w1 : wrapA .i64 ((r2 : Int) * 1000000007) = ((mulN r2 1000000007 : Nat) : Int) := n_wrap (a := mulN r2 1000000007) (by show r2 * 1000000007 ≤ _; omega)
    have w2 : wrapA .i64 (((mulN r2 1000000007 : Nat) : Int) + (r3 : Int)) = ((addN (mulN r2 1000000007) r3 : Nat) : Int) := by rw [← Int.natCast_add]; exact n_wrap (a := addN (mulN r2 1000000007) r3) (by show r2 * 1000000007 + r3 ≤ _; omega)
    have w3 : wrapA .i64 ((r4 : Int) * 998244353) = ((mulN r4 998244353 : Nat) : Int) := n_wrap (a := mulN r4 998244353) (by show r4 * 998244353 ≤ _; omega)
    have w4 : wrapA .i64 (((mulN r4 998244353 : Nat) : Int) + (r5 : Int)) = ((addN (mulN r4 998244353) r5 : Nat) : Int) := by rw [← Int.natCast_add]; exact n_wrap (a := addN (mulN r4 998244353) r5) (by show r4 * 998244353 + r5 ≤ _; omega)
    have q1 : addN (mulN r2 1000000007) r3 ≤ 1000000000000 := by show r2 * 1000000007 + r3 ≤ _; omega
    have q2 : addN (mulN r4 998244353) r5 ≤ 1000000000000 := by show r4 * 998244353 + r5 ≤ _; omega
    generalize addN (mulN r2 1000000007) r3 = n at *
    generalize addN (mulN r4 998244353) r5 = m at *
    have w5 : wrapA .i64 ((n : Int) + (m : Int)) = ((addN n m : Nat) : Int) := by rw [← Int.natCast_add]; exact n_wrap (a := addN n m) (by show n + m ≤ _; omega)
    obtain ⟨σ1, hσ1⟩ : ∃ σ1, (⟨[], 0⟩ : St).push ⟨[.int .i64 0, .nilS, .int .i64 0], 3, false⟩ = σ1 := ⟨_, rfl⟩
    have D1 : LINB σ1 0 (.int .i64 0) .nilS (.int .i64 0) := by subst hσ1; exact get_push_same
    obtain ⟨σ, cs, D2, _, _⟩ := D1.s3 (in_one A.length) (show (AV.lst A.length (ints (nints A))).one = true from rfl) (in_one k)
    have g0 : cellsAt σ (.ptr 0 0) 1 = some [.int .i64 A.length] := by simp [cellsAt, (show σ.get 0 = _ from D2), getCells, takeN, dropN]
    have hg := D2.c3
    have z1 := cv73 σ (i := A.length) h.few
    have z2 : wrapA .i64 (shlA 1 (min A.length IntKind.i64.bits)) = ((pw A.length : Nat) : Int) := sh_1 (by have := h.few; omega)
    have c1 := m56 h ht (n := 12) (by decide) σ
    have hSl := outB_length A k 12 t
    have c2 := FnV.now (v33 A.length (nints A) k h.len) (fun _ => rfl) σ
    rw [h.ok, mach_eq] at c2
    have hl := l17 h t ht (.lst more.length (byts more)) σ hg _ rfl 12 0 rfl
    generalize hS : outB A k 12 t = S at *
    have c3 := m60 h ht (n := n) (by omega) σ
    have c4 := m60 h (steps_lt (A := A) n ht) (n := m) (by omega) σ
    have c5 := m60 h ht (n := addN n m) (by show n + m ≤ _; omega) σ
    rw [show steps A (addN n m) t = steps A m (steps A n t) from steps_add A n m t] at c5
    obtain ⟨x, c6, hx⟩ := m62 h ht σ
    obtain ⟨y, c7, _⟩ := m62 h (t := 0) p1 σ
    rw [back_same h p1 ht] at c7
    simp only [show ((12 : Nat) : Int) = 12 from rfl] at c1
    simp only [show ((0 : Nat) : Int) = 0 from rfl] at c7 hl
    rw [show steps A 0 t = t from rfl] at hl
    generalize (back A t).isSome = ok at *
    generalize hu : steps A m (steps A n t) = u at *
    generalize steps A n t = u1 at *
    generalize steps A 12 t = u2 at *
    cases ok with
    | false =>
      have fin : exI TT (FI.of Try.f17 (TT.an 17)) R17_0_0 [(1, .lst more.length (byts more)), (5, .ptr 0 0), (6, .int .i64 t), (7, .str S), (9, .int .i64 u2), (10, .int .i64 12), (62, .bool false)] σ = some (.bool true, σ) := by
        simp only [mach] at c3 c4 c5 c6 c7
        rw [fi17]
        simp only [R17_0_0, b17, Try.f17, Option.getD, fstC, sndC, bodyC, thnC, elsC]
        simp [xI_seq, xI_region, xI_ret, regA, regOps, runOps, opStep, wantedA, opA, evo, evos, calleeA, lk, nif_eq, putE, paramsE, valS, val2, keepE, restrict, finA, resA, binA, binInt, ofConst, ofConst1, loadA, TK.isAgg, asVar, unA, builtinA, lenOpA, lenA, ileb_cast, ileb_eq, ieqb_dec, indexAddrA, inB_dec, evPairs, storeA, AV.cellsOf, pairsOf, xI_nil, binBool, gcE, evOpt, xI_block, xI_loopH, xI_condM, xI_exitM, xI_skip, xI_blk, exitA, ty2, ty3, ty4, ty5, ty9, ty41, ty73, eK17_0_0, fieldAddrA, allOne, AV.one, indexA, ty2, ty3, ty4, ty5, ty9, ty29, ty33, ty41, ty73, hg, e2, e3, e4, e5, w1, w2, w3, w4, w5, c3, c4, c5, c6, c7]
      have all := hl.trans fin
      refine FnV.mk fn17 rfl md17 ⟨σ, ?_⟩ (fun _ => rfl) rfl
      simp only [mach] at eM c1 c2
      rw [← all, fi17]
      simp [xI_seq, xI_region, xI_ret, regA, regOps, runOps, opStep, wantedA, opA, evo, evos, calleeA, lk, nif_eq, putE, paramsE, valS, val2, keepE, restrict, finA, resA, binA, binInt, ofConst, ofConst1, loadA, TK.isAgg, asVar, unA, builtinA, lenOpA, lenA, ileb_cast, ileb_eq, ieqb_dec, indexAddrA, inB_dec, evPairs, storeA, AV.cellsOf, pairsOf, xI_nil, binBool, gcE, evOpt, xI_block, xI_loopH, xI_condM, xI_exitM, xI_skip, xI_blk, exitA, ty2, ty3, ty4, ty5, ty9, ty41, ty73, eK17_0_0, fieldAddrA, allOne, AV.one, indexA, ty2, ty3, ty4, ty5, ty9, ty29, ty33, ty41, ty73, eL, eM, hσ1, cs, g0, z1, z2, et, hg, c1, hSl, c2]
      rfl
    | true =>
      obtain ⟨hx1, hx2⟩ := hx rfl
      have c8 := m54 h hx1 σ
      rw [hx2] at c8
      generalize par (andN k x) = pp at *
      have fin : exI TT (FI.of Try.f17 (TT.an 17)) R17_0_0 [(1, .lst more.length (byts more)), (5, .ptr 0 0), (6, .int .i64 t), (7, .str S), (9, .int .i64 u2), (10, .int .i64 12), (62, .bool false)] σ = some (.bool true, σ) := by
        simp only [mach] at c3 c4 c5 c6 c7 c8
        rw [fi17]
        simp only [R17_0_0, b17, Try.f17, Option.getD, fstC, sndC, bodyC, thnC, elsC]
        simp [xI_seq, xI_region, xI_ret, regA, regOps, runOps, opStep, wantedA, opA, evo, evos, calleeA, lk, nif_eq, putE, paramsE, valS, val2, keepE, restrict, finA, resA, binA, binInt, ofConst, ofConst1, loadA, TK.isAgg, asVar, unA, builtinA, lenOpA, lenA, ileb_cast, ileb_eq, ieqb_dec, indexAddrA, inB_dec, evPairs, storeA, AV.cellsOf, pairsOf, xI_nil, binBool, gcE, evOpt, xI_block, xI_loopH, xI_condM, xI_exitM, xI_skip, xI_blk, exitA, ty2, ty3, ty4, ty5, ty9, ty41, ty73, eK17_0_0, fieldAddrA, allOne, AV.one, indexA, ty2, ty3, ty4, ty5, ty9, ty29, ty33, ty41, ty73, hg, e2, e3, e4, e5, w1, w2, w3, w4, w5, c3, c4, c5, c6, c7, c8]
      have all := hl.trans fin
      refine FnV.mk fn17 rfl md17 ⟨σ, ?_⟩ (fun _ => rfl) rfl
      simp only [mach] at eM c1 c2
      rw [← all, fi17]
      simp [xI_seq, xI_region, xI_ret, regA, regOps, runOps, opStep, wantedA, opA, evo, evos, calleeA, lk, nif_eq, putE, paramsE, valS, val2, keepE, restrict, finA, resA, binA, binInt, ofConst, ofConst1, loadA, TK.isAgg, asVar, unA, builtinA, lenOpA, lenA, ileb_cast, ileb_eq, ieqb_dec, indexAddrA, inB_dec, evPairs, storeA, AV.cellsOf, pairsOf, xI_nil, binBool, gcE, evOpt, xI_block, xI_loopH, xI_condM, xI_exitM, xI_skip, xI_blk, exitA, ty2, ty3, ty4, ty5, ty9, ty41, ty73, eK17_0_0, fieldAddrA, allOne, AV.one, indexA, ty2, ty3, ty4, ty5, ty9, ty29, ty33, ty41, ty73, eL, eM, hσ1, cs, g0, z1, z2, et, hg, c1, hSl, c2]
      rfl

end Go.Proofs.Ytonnbgjbohbibaa
