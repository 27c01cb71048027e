/- Contracts: equations that have a solution. Nothing is claimed here; no condition. -/
import Derived.Test.YtonnbgjbohbibaaEq
namespace Go.Proofs.Ytonnbgjbohbibaa
open Go Go.Abs
set_option linter.unusedSimpArgs false
set_option linter.unusedVariables false
open Go.Wd
theorem getCells_ints {l : List Int} {n : Nat} (h : n = l.length) : getCells (ints l) 0 (n * 1) = some (ints l) := by rw [Nat.mul_one]; exact getCells_full h
theorem s120 (l : List Int) (hl : l.length ≤ 1000000) : FnS TT 120 [.lst l.length (ints l)] l := by
  cases l with
  | nil =>
    refine FnS.mk fn120 rfl md120 ⟨((⟨[], 0⟩ : St).push ⟨[], 1, false⟩), 0, false, ?_, rfl⟩
    rw [fi120]
    simp [xI_seq, xI_region, xI_ret, regA, regOps, runOps, opStep, wantedA, opA, evo, evos, calleeA, lk, nif_eq, putE, paramsE, valS, val2, keepE, restrict, finA, resA, binA, binInt, ofConst, ofConst1, loadA, TK.isAgg, asVar, unA, builtinA, lenOpA, lenA, ileb_cast, ileb_eq, ieqb_dec, indexAddrA, inB_dec, evPairs, storeA, AV.cellsOf, pairsOf, xI_nil, binBool, gcE, evOpt, xI_block, xI_loopH, xI_condM, xI_exitM, xI_skip, xI_blk, exitA, ty2, ty33, bn0, appendA, firstA, getCells, dropN, takeN, allOne, storeCellsA, putN, overN, ints_nil, n_push, St.push, St.get, St.set, hget, hset]
  | cons x l =>
    obtain ⟨n, hn⟩ : ∃ n, n = (x :: l).length := ⟨_, rfl⟩
    have hn0 : 0 < n := by rw [hn]; simp
    obtain ⟨σ, hσ⟩ : ∃ σ, (⟨[], 0⟩ : St).push ⟨ints [], 1, false⟩ = σ := ⟨_, rfl⟩
    have hnn : σ.n = 1 := by subst hσ; rfl
    have ha : appendA TT σ 33 33 (.sl 0 0 0 0) (.lst n (ints (x :: l))) = some (.sl 1 0 n n, σ.push ⟨ints (x :: l), 1, true⟩) := by
      unfold appendA
      have h1 : firstA σ 1 n (.lst n (ints (x :: l))) = some (ints (x :: l)) := getCells_ints hn
      have h2 : σ.get 0 = some ⟨ints [], 1, false⟩ := by subst hσ; rfl
      simp only [ty33, ty2, lenA, h1, allOne_ints, h2]
      rw [if_neg (by simp), if_neg (by omega)]
      have h3 : getCells (ints []) 0 (0 * 1) = some (ints []) := rfl
      simp only [h3]
      rw [if_pos ⟨by omega, by omega, trivial, rfl, by omega⟩]
      simp [hnn, ints_nil]
    rw [← hn]
    have hr : Row (σ.push ⟨ints (x :: l), 1, true⟩) 1 (x :: l) := by
      have := Row.push (σ := σ) (l := x :: l) (o := true)
      rwa [hnn] at this
    have hn1 : l.length + 1 = n := by rw [hn]; simp
    obtain ⟨o, hr, _⟩ := hr
    refine FnS.mk fn120 rfl md120 ⟨σ.push ⟨ints (x :: l), 1, true⟩, 1, o, ?_, hr⟩
    rw [← hn, fi120]
    simp [xI_seq, xI_region, xI_ret, regA, regOps, runOps, opStep, wantedA, opA, evo, evos, calleeA, lk, nif_eq, putE, paramsE, valS, val2, keepE, restrict, finA, resA, binA, binInt, ofConst, ofConst1, loadA, TK.isAgg, asVar, unA, builtinA, lenOpA, lenA, ileb_cast, ileb_eq, ieqb_dec, indexAddrA, inB_dec, evPairs, storeA, AV.cellsOf, pairsOf, xI_nil, binBool, gcE, evOpt, xI_block, xI_loopH, xI_condM, xI_exitM, xI_skip, xI_blk, exitA, ty2, ty33, bn0, hσ, ha, hn1]
/-- The place of the first with a bit, or the number of all. -/
def fst1 (c : Nat) : List Nat → Nat
  | [] => 0
  | e :: r => if e.testBit c = true then 0 else fst1 c r + 1
theorem fst1_le (c : Nat) : ∀ l, fst1 c l ≤ l.length
  | [] => Nat.le_refl _
  | e :: r => by have := fst1_le c r; simp only [fst1]; split <;> simp <;> omega
theorem fst1_find (c : Nat) : ∀ l, l.findIdx? (fun e => e.testBit c) = if fst1 c l < l.length then some (fst1 c l) else none
  | [] => rfl
  | e :: r => by
    rw [List.findIdx?_cons]
    simp only [fst1]
    by_cases h : e.testBit c = true
    · simp [h]
    · simp only [h, if_false, fst1_find c r]
      by_cases h2 : fst1 c r < r.length
      · rw [if_pos h2]; simp [h2]
      · rw [if_neg h2]; simp [h2]
/-- What is added to the others. -/
def wip (c piv e : Nat) : Nat := if e.testBit c = true then xorN e piv else e
/-- All but one. -/
def ers (i : Nat) : Nat → List Nat → List Nat
  | _, [] => []
  | k, e :: r => if k = i then ers i (k + 1) r else e :: ers i (k + 1) r
theorem ers_eq (i : Nat) : ∀ (l : List Nat) (k : Nat), ers i k l = if k ≤ i then l.eraseIdx (i - k) else l
  | [], k => by simp [ers]
  | e :: r, k => by
    simp only [ers, ers_eq i r (k + 1)]
    by_cases h : k = i
    · subst h; simp; omega
    · rw [if_neg h]
      by_cases h2 : k ≤ i
      · rw [if_pos (by omega), if_pos h2, show i - k = (i - (k + 1)) + 1 by omega, List.eraseIdx_cons_succ]
      · rw [if_neg (by omega), if_neg h2]
theorem elim_no {c : Nat} {es : List Nat} (h : ¬ fst1 c es < es.length) : elim c es = es := by
  unfold elim; rw [fst1_find, if_neg h]
theorem elim_yes {c : Nat} {es : List Nat} (h : fst1 c es < es.length) : elim c es = (ers (fst1 c es) 0 es).map (wip c (es.getD (fst1 c es) 0)) := by
  unfold elim; rw [fst1_find, if_pos h, ers_eq, if_pos (Nat.zero_le _)]; rfl
theorem elim_62 {c : Nat} {es : List Nat} (h : ∀ e ∈ es, e < 2 ^ 62) : ∀ e ∈ elim c es, e < 2 ^ 62 := by
  intro e he
  by_cases hc : fst1 c es < es.length
  · rw [elim_yes hc] at he
    obtain ⟨x, hx, rfl⟩ := List.mem_map.1 he
    rw [ers_eq, if_pos (Nat.zero_le _)] at hx
    have hx := h x (List.mem_of_mem_eraseIdx hx)
    have hp : es.getD (fst1 c es) 0 < 2 ^ 62 := by
      rw [List.getD_eq_getElem?_getD, List.getElem?_eq_getElem hc]; exact h _ (List.getElem_mem hc)
    unfold wip; split
    · exact xorN_lt hx hp
    · exact hx
  · rw [elim_no hc] at he; exact h e he
theorem elim_len {c : Nat} (es : List Nat) : (elim c es).length ≤ es.length := by
  by_cases hc : fst1 c es < es.length
  · rw [elim_yes hc, List.length_map, ers_eq, if_pos (Nat.zero_le _), List.length_eraseIdx]; split <;> omega
  · rw [elim_no hc]; omega

noncomputable def b119 : Code := Try.f119.body.getD .skip
noncomputable def B119_0 : Code := (bodyC (bodyC (sndC (fstC (sndC (sndC b119))))))
noncomputable def K119_0 : List It := .lp B119_0 :: .blk 0 :: .code (sndC (sndC (sndC b119))) :: []
theorem xl119_0 {fi : FI} {env : Env} {σ : St} : exI TT fi K119_0 env σ = exI TT fi (.code B119_0 :: K119_0) env σ := by unfold K119_0; exact xI_lp
noncomputable def R119_0_0 : List It := .code (sndC (sndC (sndC b119))) :: []
theorem eK119_0_0 : exitA 0 K119_0 = some R119_0_0 := rfl
noncomputable def B119_1 : Code := (bodyC (bodyC (fstC (sndC (bodyC (fstC (sndC (bodyC (bodyC (sndC (fstC (sndC (sndC b119)))))))))))))
noncomputable def K119_1 : List It := .lp B119_1 :: .blk 2 :: .code (sndC (sndC (bodyC (fstC (sndC (bodyC (bodyC (sndC (fstC (sndC (sndC b119))))))))))) :: .blk 1 :: .code (sndC (sndC (bodyC (bodyC (sndC (fstC (sndC (sndC b119)))))))) :: K119_0
theorem xl119_1 {fi : FI} {env : Env} {σ : St} : exI TT fi K119_1 env σ = exI TT fi (.code B119_1 :: K119_1) env σ := by unfold K119_1; exact xI_lp
noncomputable def R119_1_2 : List It := .code (sndC (sndC (bodyC (fstC (sndC (bodyC (bodyC (sndC (fstC (sndC (sndC b119))))))))))) :: .blk 1 :: .code (sndC (sndC (bodyC (bodyC (sndC (fstC (sndC (sndC b119)))))))) :: K119_0
theorem eK119_1_2 : exitA 2 K119_1 = some R119_1_2 := rfl
noncomputable def R119_1_1 : List It := .code (sndC (sndC (bodyC (bodyC (sndC (fstC (sndC (sndC b119)))))))) :: K119_0
theorem eK119_1_1 : exitA 1 K119_1 = some R119_1_1 := rfl
theorem eK119_1_0 : exitA 0 K119_1 = some R119_0_0 := rfl
noncomputable def B119_2 : Code := (bodyC (bodyC (sndC (fstC (sndC (sndC (sndC (sndC (sndC (bodyC (fstC (sndC (bodyC (bodyC (sndC (fstC (sndC (sndC b119))))))))))))))))))
noncomputable def K119_2 : List It := .lp B119_2 :: .blk 4 :: .code (sndC (sndC (sndC (sndC (sndC (sndC (bodyC (fstC (sndC (bodyC (bodyC (sndC (fstC (sndC (sndC b119))))))))))))))) :: .blk 1 :: .code (sndC (sndC (bodyC (bodyC (sndC (fstC (sndC (sndC b119)))))))) :: K119_0
theorem xl119_2 {fi : FI} {env : Env} {σ : St} : exI TT fi K119_2 env σ = exI TT fi (.code B119_2 :: K119_2) env σ := by unfold K119_2; exact xI_lp
noncomputable def R119_2_4 : List It := .code (sndC (sndC (sndC (sndC (sndC (sndC (bodyC (fstC (sndC (bodyC (bodyC (sndC (fstC (sndC (sndC b119))))))))))))))) :: .blk 1 :: .code (sndC (sndC (bodyC (bodyC (sndC (fstC (sndC (sndC b119)))))))) :: K119_0
theorem eK119_2_4 : exitA 4 K119_2 = some R119_2_4 := rfl
noncomputable def R119_2_1 : List It := .code (sndC (sndC (bodyC (bodyC (sndC (fstC (sndC (sndC b119)))))))) :: K119_0
theorem eK119_2_1 : exitA 1 K119_2 = some R119_2_1 := rfl
theorem eK119_2_0 : exitA 0 K119_2 = some R119_0_0 := rfl
noncomputable def B119_3 : Code := (bodyC (bodyC (sndC (fstC (sndC (sndC (sndC b119)))))))
noncomputable def K119_3 : List It := .lp B119_3 :: .blk 6 :: .code (sndC (sndC (sndC (sndC b119)))) :: []
theorem xl119_3 {fi : FI} {env : Env} {σ : St} : exI TT fi K119_3 env σ = exI TT fi (.code B119_3 :: K119_3) env σ := by unfold K119_3; exact xI_lp
noncomputable def R119_3_6 : List It := .code (sndC (sndC (sndC (sndC b119)))) :: []
theorem eK119_3_6 : exitA 6 K119_3 = some R119_3_6 := rfl
theorem l119a (w c : Nat) (hc : c ≤ 62) (es : List Nat) (hes : ∀ e ∈ es, e < 2 ^ 62) (n b : Nat) (hn : n = es.length) (hl : n ≤ 1000000) (σ : St) (hr : Row σ b (nints es)) : ∀ (suf pre : List Nat), es = pre ++ suf →
    exI TT (FI.of Try.f119 (TT.an 119)) K119_1 [(1, .int .u64 w), (5, .sl b 0 n n), (6, .int .u64 c), (7, .int .i64 pre.length)] σ = exI TT (FI.of Try.f119 (TT.an 119)) R119_1_2 [(1, .int .u64 w), (5, .sl b 0 n n), (6, .int .u64 c), (7, .int .i64 (pre.length + fst1 c suf : Nat)), (32, .bool false)] σ := by
  intro suf
  induction suf with
  | nil =>
    intro pre hp
    have hll : n = pre.length := by rw [hn, hp]; simp
    subst hll
    simp only [fst1, Nat.add_zero]
    rw [fi119]
    rw [xl119_1]
    simp only [B119_1, b119, Try.f119, Option.getD, fstC, sndC, bodyC, thnC, elsC]
    simp [xI_seq, xI_region, xI_ret, regA, regOps, runOps, opStep, wantedA, opA, evo, evos, calleeA, lk, nif_eq, putE, paramsE, valS, val2, keepE, restrict, finA, resA, binA, binInt, ofConst, ofConst1, loadA, TK.isAgg, asVar, unA, builtinA, lenOpA, lenA, ileb_cast, ileb_eq, ieqb_dec, indexAddrA, inB_dec, evPairs, storeA, AV.cellsOf, pairsOf, xI_nil, binBool, gcE, evOpt, xI_block, xI_loopH, xI_condM, xI_exitM, xI_skip, xI_blk, exitA, ty2, ty3, ty33, ty73, eK119_0_0, eK119_1_2, eK119_1_1, eK119_1_0, eK119_2_4, eK119_2_1, eK119_2_0, eK119_3_6]
  | cons e suf ih =>
    intro pre hp
    have hll : n = pre.length + (suf.length + 1) := by rw [hn, hp]; simp
    have hg : (nints es)[pre.length]? = some (e : Int) := nints_get (by simp [hp])
    have he := hes e (by simp [hp])
    have hlt : ¬ n ≤ pre.length := by omega
    have hlt2 : pre.length < n := by omega
    have hw1 := wrapS (n := pre.length) (by omega)
    have hrd := hr.read hg
    have s1 := sh_r (a := e) (b := c) (by omega)
    have hsl : shrN e c ≤ e := Nat.div_le_self _ _
    have s2 := n_and1 (a := shrN e c) (lt_62 (by omega))
    by_cases hb : e.testBit c = true
    · have hm := (bit_mod e c).2 hb
      have hm' : ¬ ((modN (shrN e c) 2 : Nat) : Int) = 0 := by omega
      simp only [fst1, hb, if_true, Nat.add_zero]
      rw [fi119]
      rw [xl119_1]
      simp only [B119_1, b119, Try.f119, Option.getD, fstC, sndC, bodyC, thnC, elsC]
      simp [xI_seq, xI_region, xI_ret, regA, regOps, runOps, opStep, wantedA, opA, evo, evos, calleeA, lk, nif_eq, putE, paramsE, valS, val2, keepE, restrict, finA, resA, binA, binInt, ofConst, ofConst1, loadA, TK.isAgg, asVar, unA, builtinA, lenOpA, lenA, ileb_cast, ileb_eq, ieqb_dec, indexAddrA, inB_dec, evPairs, storeA, AV.cellsOf, pairsOf, xI_nil, binBool, gcE, evOpt, xI_block, xI_loopH, xI_condM, xI_exitM, xI_skip, xI_blk, exitA, ty2, ty3, ty33, ty73, eK119_0_0, eK119_1_2, eK119_1_1, eK119_1_0, eK119_2_4, eK119_2_1, eK119_2_0, eK119_3_6, hlt, hlt2, hw1, hrd, s1, s2, hm, hm']
    · have hm0 : ¬ modN (shrN e c) 2 = 1 := fun h => hb ((bit_mod e c).1 h)
      have hm1 : modN (shrN e c) 2 < 2 := Nat.mod_lt _ (by decide)
      have hm : modN (shrN e c) 2 = 0 := by omega
      have hm' : ((modN (shrN e c) 2 : Nat) : Int) = 0 := by omega
      have h1 := ih (pre ++ [e]) (by simp [hp])
      rw [show pre.length + fst1 c (e :: suf) = (pre ++ [e]).length + fst1 c suf by simp [fst1, hb]; omega]
      rw [show (pre ++ [e]).length + fst1 c suf = pre.length + 1 + fst1 c suf by simp] at h1 ⊢
      generalize pre.length + 1 + fst1 c suf = z at *
      simp only [List.length_append, List.length_singleton] at h1
      rw [fi119] at h1 ⊢
      rw [xl119_1]
      simp only [B119_1, b119, Try.f119, Option.getD, fstC, sndC, bodyC, thnC, elsC]
      simp [xI_seq, xI_region, xI_ret, regA, regOps, runOps, opStep, wantedA, opA, evo, evos, calleeA, lk, nif_eq, putE, paramsE, valS, val2, keepE, restrict, finA, resA, binA, binInt, ofConst, ofConst1, loadA, TK.isAgg, asVar, unA, builtinA, lenOpA, lenA, ileb_cast, ileb_eq, ieqb_dec, indexAddrA, inB_dec, evPairs, storeA, AV.cellsOf, pairsOf, xI_nil, binBool, gcE, evOpt, xI_block, xI_loopH, xI_condM, xI_exitM, xI_skip, xI_blk, exitA, ty2, ty3, ty33, ty73, eK119_0_0, eK119_1_2, eK119_1_1, eK119_1_0, eK119_2_4, eK119_2_1, eK119_2_0, eK119_3_6, hlt, hlt2, hw1, hrd, s1, s2, hm, hm']
      simpa using h1
theorem l119b (w c : Nat) (hc : c ≤ 62) (es : List Nat) (hes : ∀ e ∈ es, e < 2 ^ 62) (n bv i piv : Nat) (hn : n = es.length) (hl : n ≤ 1000000) (hpv : piv < 2 ^ 62) : ∀ (suf pre acc : List Nat) (σ : St) (b : Nat), es = pre ++ suf → acc.length ≤ pre.length → Row σ bv (nints es) → bv ≠ b → Row σ b (nints acc) →
    ∃ σ' b' m, exI TT (FI.of Try.f119 (TT.an 119)) K119_2 [(1, .int .u64 w), (5, .sl bv 0 n n), (6, .int .u64 c), (7, .int .i64 i), (8, .int .i64 piv), (9, .sl b 0 acc.length acc.length), (10, .int .i64 pre.length)] σ =
      exI TT (FI.of Try.f119 (TT.an 119)) R119_2_4 [(1, .int .u64 w), (5, .sl bv 0 n n), (6, .int .u64 c), (7, .int .i64 i), (8, .int .i64 piv), (9, .sl b' 0 m m), (10, .int .i64 n), (47, .bool false)] σ' ∧ m = (acc ++ (ers i pre.length suf).map (wip c piv)).length ∧ Row σ' b' (nints (acc ++ (ers i pre.length suf).map (wip c piv))) := by
  intro suf
  induction suf with
  | nil =>
    intro pre acc σ b hp ha hv hbb hr
    have hll : n = pre.length := by rw [hn, hp]; simp
    subst hll
    refine ⟨σ, b, acc.length, ?_, by simp [ers], by simpa [ers] using hr⟩
    rw [fi119]
    rw [xl119_2]
    simp only [B119_2, b119, Try.f119, Option.getD, fstC, sndC, bodyC, thnC, elsC]
    simp [xI_seq, xI_region, xI_ret, regA, regOps, runOps, opStep, wantedA, opA, evo, evos, calleeA, lk, nif_eq, putE, paramsE, valS, val2, keepE, restrict, finA, resA, binA, binInt, ofConst, ofConst1, loadA, TK.isAgg, asVar, unA, builtinA, lenOpA, lenA, ileb_cast, ileb_eq, ieqb_dec, indexAddrA, inB_dec, evPairs, storeA, AV.cellsOf, pairsOf, xI_nil, binBool, gcE, evOpt, xI_block, xI_loopH, xI_condM, xI_exitM, xI_skip, xI_blk, exitA, ty2, ty3, ty33, ty73, eK119_0_0, eK119_1_2, eK119_1_1, eK119_1_0, eK119_2_4, eK119_2_1, eK119_2_0, eK119_3_6]
  | cons e suf ih =>
    intro pre acc σ b hp ha hv hbb hr
    have hll : n = pre.length + (suf.length + 1) := by rw [hn, hp]; simp
    have hg : (nints es)[pre.length]? = some (e : Int) := nints_get (by simp [hp])
    have he := hes e (by simp [hp])
    have hlt : ¬ n ≤ pre.length := by omega
    have hlt2 : pre.length < n := by omega
    have hw1 := wrapS (n := pre.length) (by omega)
    have hrd := hv.read hg
    have hvl := hv.lt
    by_cases hi : pre.length = i
    · subst hi
      obtain ⟨σ', b', m, h1, h2, h3⟩ := ih (pre ++ [e]) acc σ b (by simp [hp]) (by simp; omega) hv hbb hr
      simp only [show (pre ++ [e]).length = pre.length + 1 by simp] at h1 h2 h3
      refine ⟨σ', b', m, ?_, by rw [h2]; simp [ers], by rw [show ers pre.length pre.length (e :: suf) = ers pre.length (pre.length + 1) suf by simp [ers]]; exact h3⟩
      rw [fi119] at h1 ⊢
      rw [xl119_2]
      simp only [B119_2, b119, Try.f119, Option.getD, fstC, sndC, bodyC, thnC, elsC]
      simp [xI_seq, xI_region, xI_ret, regA, regOps, runOps, opStep, wantedA, opA, evo, evos, calleeA, lk, nif_eq, putE, paramsE, valS, val2, keepE, restrict, finA, resA, binA, binInt, ofConst, ofConst1, loadA, TK.isAgg, asVar, unA, builtinA, lenOpA, lenA, ileb_cast, ileb_eq, ieqb_dec, indexAddrA, inB_dec, evPairs, storeA, AV.cellsOf, pairsOf, xI_nil, binBool, gcE, evOpt, xI_block, xI_loopH, xI_condM, xI_exitM, xI_skip, xI_blk, exitA, ty2, ty3, ty33, ty73, eK119_0_0, eK119_1_2, eK119_1_1, eK119_1_0, eK119_2_4, eK119_2_1, eK119_2_0, eK119_3_6, hlt, hlt2, hw1]
      simpa using h1
    · have hi' : ¬ ((pre.length : Nat) : Int) = (i : Int) := by omega
      have s1 := sh_r (a := e) (b := c) (by omega)
      have hsl : shrN e c ≤ e := Nat.div_le_self _ _
      have s2 := n_and1 (a := shrN e c) (lt_62 (by omega))
      have s3 := n_xor (a := e) (b := piv) (lt_62 he) (lt_62 hpv)
      obtain ⟨y, hy⟩ : ∃ y, y = wip c piv e := ⟨_, rfl⟩
      obtain ⟨σ1, hap, hr1, hn1, hu1⟩ := nints_append_row (x := y) ty33 ty2 hr (n := acc.length) rfl (by omega)
      have hv1 : Row σ1 bv (nints es) := hv.keep (by omega) (hu1 bv hbb hvl)
      obtain ⟨σ', b', m, h1, h2, h3⟩ := ih (pre ++ [e]) (acc ++ [y]) σ1 (σ.n + 1) (by simp [hp]) (by simp; omega) hv1 (by omega) hr1
      simp only [show (pre ++ [e]).length = pre.length + 1 by simp, show (acc ++ [y]).length = acc.length + 1 by simp] at h1 h2 h3
      refine ⟨σ', b', m, ?_, by rw [h2, hy]; simp [ers, hi], by rw [show acc ++ (ers i pre.length (e :: suf)).map (wip c piv) = acc ++ [y] ++ (ers i (pre.length + 1) suf).map (wip c piv) by simp [ers, hi, hy]]; exact h3⟩
      by_cases hb : e.testBit c = true
      · have hm := (bit_mod e c).2 hb
        have hm' : ((modN (shrN e c) 2 : Nat) : Int) = 1 := by omega
        rw [show y = xorN e piv by rw [hy]; simp [wip, hb]] at hap
        rw [fi119] at h1 ⊢
        rw [xl119_2]
        simp only [B119_2, b119, Try.f119, Option.getD, fstC, sndC, bodyC, thnC, elsC]
        simp [xI_seq, xI_region, xI_ret, regA, regOps, runOps, opStep, wantedA, opA, evo, evos, calleeA, lk, nif_eq, putE, paramsE, valS, val2, keepE, restrict, finA, resA, binA, binInt, ofConst, ofConst1, loadA, TK.isAgg, asVar, unA, builtinA, lenOpA, lenA, ileb_cast, ileb_eq, ieqb_dec, indexAddrA, inB_dec, evPairs, storeA, AV.cellsOf, pairsOf, xI_nil, binBool, gcE, evOpt, xI_block, xI_loopH, xI_condM, xI_exitM, xI_skip, xI_blk, exitA, ty2, ty3, ty33, ty73, eK119_0_0, eK119_1_2, eK119_1_1, eK119_1_0, eK119_2_4, eK119_2_1, eK119_2_0, eK119_3_6, hlt, hlt2, hw1, hi', hi, hrd, s1, s2, s3, hm, hm', bs1, hap]
        simpa using h1
      · have hm : ¬ modN (shrN e c) 2 = 1 := fun h => hb ((bit_mod e c).1 h)
        have hm' : ¬ ((modN (shrN e c) 2 : Nat) : Int) = 1 := by omega
        rw [show y = e by rw [hy]; simp [wip, hb]] at hap
        rw [fi119] at h1 ⊢
        rw [xl119_2]
        simp only [B119_2, b119, Try.f119, Option.getD, fstC, sndC, bodyC, thnC, elsC]
        simp [xI_seq, xI_region, xI_ret, regA, regOps, runOps, opStep, wantedA, opA, evo, evos, calleeA, lk, nif_eq, putE, paramsE, valS, val2, keepE, restrict, finA, resA, binA, binInt, ofConst, ofConst1, loadA, TK.isAgg, asVar, unA, builtinA, lenOpA, lenA, ileb_cast, ileb_eq, ieqb_dec, indexAddrA, inB_dec, evPairs, storeA, AV.cellsOf, pairsOf, xI_nil, binBool, gcE, evOpt, xI_block, xI_loopH, xI_condM, xI_exitM, xI_skip, xI_blk, exitA, ty2, ty3, ty33, ty73, eK119_0_0, eK119_1_2, eK119_1_1, eK119_1_0, eK119_2_4, eK119_2_1, eK119_2_0, eK119_3_6, hlt, hlt2, hw1, hi', hi, hrd, s1, s2, s3, hm, hm', bs1, hap]
        simpa using h1
theorem l119z (es : List Nat) (n b : Nat) (hn : n = es.length) (hl : n ≤ 1000000) (σ : St) (hr : Row σ b (nints es)) : ∀ (suf pre : List Nat), es = pre ++ suf →
    exI TT (FI.of Try.f119 (TT.an 119)) K119_3 [(5, .sl b 0 n n), (11, .int .i64 pre.length)] σ = some (.bool (suf.all (· == 0)), σ) := by
  intro suf
  induction suf with
  | nil =>
    intro pre hp
    have hll : n = pre.length := by rw [hn, hp]; simp
    subst hll
    rw [fi119]
    rw [xl119_3]
    simp only [B119_3, b119, Try.f119, Option.getD, fstC, sndC, bodyC, thnC, elsC]
    simp [xI_seq, xI_region, xI_ret, regA, regOps, runOps, opStep, wantedA, opA, evo, evos, calleeA, lk, nif_eq, putE, paramsE, valS, val2, keepE, restrict, finA, resA, binA, binInt, ofConst, ofConst1, loadA, TK.isAgg, asVar, unA, builtinA, lenOpA, lenA, ileb_cast, ileb_eq, ieqb_dec, indexAddrA, inB_dec, evPairs, storeA, AV.cellsOf, pairsOf, xI_nil, binBool, gcE, evOpt, xI_block, xI_loopH, xI_condM, xI_exitM, xI_skip, xI_blk, exitA, ty2, ty3, ty33, ty73, eK119_0_0, eK119_1_2, eK119_1_1, eK119_1_0, eK119_2_4, eK119_2_1, eK119_2_0, eK119_3_6]
    simp only [R119_3_6, b119, Try.f119, Option.getD, fstC, sndC, bodyC, thnC, elsC]
    simp [xI_seq, xI_region, xI_ret, regA, regOps, runOps, opStep, wantedA, opA, evo, evos, calleeA, lk, nif_eq, putE, paramsE, valS, val2, keepE, restrict, finA, resA, binA, binInt, ofConst, ofConst1, loadA, TK.isAgg, asVar, unA, builtinA, lenOpA, lenA, ileb_cast, ileb_eq, ieqb_dec, indexAddrA, inB_dec, evPairs, storeA, AV.cellsOf, pairsOf, xI_nil, binBool, gcE, evOpt, xI_block, xI_loopH, xI_condM, xI_exitM, xI_skip, xI_blk, exitA, ty2, ty3, ty33, ty73, eK119_0_0, eK119_1_2, eK119_1_1, eK119_1_0, eK119_2_4, eK119_2_1, eK119_2_0, eK119_3_6]
  | cons e suf ih =>
    intro pre hp
    have hll : n = pre.length + (suf.length + 1) := by rw [hn, hp]; simp
    have hg : (nints es)[pre.length]? = some (e : Int) := nints_get (by simp [hp])
    have hlt : ¬ n ≤ pre.length := by omega
    have hlt2 : pre.length < n := by omega
    have hw1 := wrapS (n := pre.length) (by omega)
    have hrd := hr.read hg
    have h1 := ih (pre ++ [e]) (by simp [hp])
    simp only [show (pre ++ [e]).length = pre.length + 1 by simp] at h1
    by_cases h0 : e = 0
    · subst h0
      rw [fi119] at h1 ⊢
      rw [xl119_3]
      simp only [B119_3, b119, Try.f119, Option.getD, fstC, sndC, bodyC, thnC, elsC]
      simp [xI_seq, xI_region, xI_ret, regA, regOps, runOps, opStep, wantedA, opA, evo, evos, calleeA, lk, nif_eq, putE, paramsE, valS, val2, keepE, restrict, finA, resA, binA, binInt, ofConst, ofConst1, loadA, TK.isAgg, asVar, unA, builtinA, lenOpA, lenA, ileb_cast, ileb_eq, ieqb_dec, indexAddrA, inB_dec, evPairs, storeA, AV.cellsOf, pairsOf, xI_nil, binBool, gcE, evOpt, xI_block, xI_loopH, xI_condM, xI_exitM, xI_skip, xI_blk, exitA, ty2, ty3, ty33, ty73, eK119_0_0, eK119_1_2, eK119_1_1, eK119_1_0, eK119_2_4, eK119_2_1, eK119_2_0, eK119_3_6, hlt, hlt2, hw1, hrd]
      simpa using h1
    · have h0' : ¬ (e : Int) = 0 := by omega
      rw [fi119]
      rw [xl119_3]
      simp only [B119_3, b119, Try.f119, Option.getD, fstC, sndC, bodyC, thnC, elsC]
      simp [xI_seq, xI_region, xI_ret, regA, regOps, runOps, opStep, wantedA, opA, evo, evos, calleeA, lk, nif_eq, putE, paramsE, valS, val2, keepE, restrict, finA, resA, binA, binInt, ofConst, ofConst1, loadA, TK.isAgg, asVar, unA, builtinA, lenOpA, lenA, ileb_cast, ileb_eq, ieqb_dec, indexAddrA, inB_dec, evPairs, storeA, AV.cellsOf, pairsOf, xI_nil, binBool, gcE, evOpt, xI_block, xI_loopH, xI_condM, xI_exitM, xI_skip, xI_blk, exitA, ty2, ty3, ty33, ty73, eK119_0_0, eK119_1_2, eK119_1_1, eK119_1_0, eK119_2_4, eK119_2_1, eK119_2_0, eK119_3_6, hlt, hlt2, hw1, hrd, h0, h0']
theorem l119 (w : Nat) (hw : w ≤ 62) : ∀ (m c : Nat) (es : List Nat) (σ : St) (b : Nat), c + m = w → es.length ≤ 1000000 → (∀ e ∈ es, e < 2 ^ 62) → Row σ b (nints es) →
    ∃ σ', exI TT (FI.of Try.f119 (TT.an 119)) K119_0 [(1, .int .u64 w), (5, .sl b 0 es.length es.length), (6, .int .u64 c)] σ = some (.bool (solves m c es), σ') := by
  intro m
  induction m with
  | zero =>
    intro c es σ b hc hl hes hr
    obtain rfl : c = w := by omega
    have h := l119z es es.length b rfl hl σ hr es [] rfl
    simp only [List.length_nil, Int.natCast_zero, show ((0 : Nat) : Int) = 0 from rfl] at h
    refine ⟨σ, ?_⟩
    rw [show solves 0 c es = es.all (· == 0) from rfl, ← h]
    rw [fi119]
    rw [xl119_0]
    simp only [B119_0, b119, Try.f119, Option.getD, fstC, sndC, bodyC, thnC, elsC]
    simp [xI_seq, xI_region, xI_ret, regA, regOps, runOps, opStep, wantedA, opA, evo, evos, calleeA, lk, nif_eq, putE, paramsE, valS, val2, keepE, restrict, finA, resA, binA, binInt, ofConst, ofConst1, loadA, TK.isAgg, asVar, unA, builtinA, lenOpA, lenA, ileb_cast, ileb_eq, ieqb_dec, indexAddrA, inB_dec, evPairs, storeA, AV.cellsOf, pairsOf, xI_nil, binBool, gcE, evOpt, xI_block, xI_loopH, xI_condM, xI_exitM, xI_skip, xI_blk, exitA, ty2, ty3, ty33, ty73, eK119_0_0, eK119_1_2, eK119_1_1, eK119_1_0, eK119_2_4, eK119_2_1, eK119_2_0, eK119_3_6]
    simp only [R119_0_0, b119, Try.f119, Option.getD, fstC, sndC, bodyC, thnC, elsC]
    simp [xI_seq, xI_region, xI_ret, regA, regOps, runOps, opStep, wantedA, opA, evo, evos, calleeA, lk, nif_eq, putE, paramsE, valS, val2, keepE, restrict, finA, resA, binA, binInt, ofConst, ofConst1, loadA, TK.isAgg, asVar, unA, builtinA, lenOpA, lenA, ileb_cast, ileb_eq, ieqb_dec, indexAddrA, inB_dec, evPairs, storeA, AV.cellsOf, pairsOf, xI_nil, binBool, gcE, evOpt, xI_block, xI_loopH, xI_condM, xI_exitM, xI_skip, xI_blk, exitA, ty2, ty3, ty33, ty73, eK119_0_0, eK119_1_2, eK119_1_1, eK119_1_0, eK119_2_4, eK119_2_1, eK119_2_0, eK119_3_6]
    rfl
  | succ m ih =>
    intro c es σ b hc hl hes hr
    have hc62 : c ≤ 62 := by omega
    have hlt : ¬ w ≤ c := by omega
    have hlt2 : c < w := by omega
    have hw1 : wrapA .u64 ((c : Int) + 1) = ((c + 1 : Nat) : Int) := n_wrapu (a := c + 1) (by omega)
    have h1 := l119a w c hc62 es hes es.length b rfl hl σ hr es [] rfl
    simp only [List.length_nil, Int.natCast_zero, show ((0 : Nat) : Int) = 0 from rfl, Nat.zero_add] at h1
    have hle := fst1_le c es
    by_cases hf : fst1 c es < es.length
    · have hne : ¬ ((fst1 c es : Nat) : Int) = (es.length : Int) := by omega
      have hg : (nints es)[fst1 c es]? = some ((es.getD (fst1 c es) 0 : Nat) : Int) := nints_get (by rw [List.getD_eq_getElem?_getD, List.getElem?_eq_getElem hf]; rfl)
      have hrd := hr.read hg
      have hpv : es.getD (fst1 c es) 0 < 2 ^ 62 := by
        rw [List.getD_eq_getElem?_getD, List.getElem?_eq_getElem hf]; exact hes _ (List.getElem_mem hf)
      obtain ⟨piv, hpg⟩ : ∃ piv, es.getD (fst1 c es) 0 = piv := ⟨_, rfl⟩
      rw [hpg] at hrd hpv
      obtain ⟨σ', b', q, h2, h3, h4⟩ := l119b w c hc62 es hes es.length b (fst1 c es) piv rfl hl hpv es [] [] (σ.push ⟨ints [], 1, false⟩) σ.n rfl (Nat.le_refl _) hr.pushed (by have := hr.lt; omega) Row.push
      simp only [List.nil_append, List.length_nil, Int.natCast_zero, show ((0 : Nat) : Int) = 0 from rfl] at h2 h3 h4
      have hel : elim c es = (ers (fst1 c es) 0 es).map (wip c piv) := by rw [elim_yes hf, hpg]
      rw [← hel] at h3 h4
      obtain ⟨σ2, h5⟩ := ih (c + 1) (elim c es) σ' b' (by omega) (by have := elim_len (c := c) es; omega) (elim_62 hes) h4
      rw [← h3] at h5
      refine ⟨σ2, ?_⟩
      rw [show solves (m + 1) c es = solves m (c + 1) (elim c es) from rfl]
      rw [fi119] at h1 h2 h5 ⊢
      rw [xl119_0]
      simp only [B119_0, b119, Try.f119, Option.getD, fstC, sndC, bodyC, thnC, elsC]
      simp [xI_seq, xI_region, xI_ret, regA, regOps, runOps, opStep, wantedA, opA, evo, evos, calleeA, lk, nif_eq, putE, paramsE, valS, val2, keepE, restrict, finA, resA, binA, binInt, ofConst, ofConst1, loadA, TK.isAgg, asVar, unA, builtinA, lenOpA, lenA, ileb_cast, ileb_eq, ieqb_dec, indexAddrA, inB_dec, evPairs, storeA, AV.cellsOf, pairsOf, xI_nil, binBool, gcE, evOpt, xI_block, xI_loopH, xI_condM, xI_exitM, xI_skip, xI_blk, exitA, ty2, ty3, ty33, ty73, eK119_0_0, eK119_1_2, eK119_1_1, eK119_1_0, eK119_2_4, eK119_2_1, eK119_2_0, eK119_3_6, hlt, hlt2]
      refine h1.trans ?_
      simp only [R119_1_2, b119, Try.f119, Option.getD, fstC, sndC, bodyC, thnC, elsC]
      simp [xI_seq, xI_region, xI_ret, regA, regOps, runOps, opStep, wantedA, opA, evo, evos, calleeA, lk, nif_eq, putE, paramsE, valS, val2, keepE, restrict, finA, resA, binA, binInt, ofConst, ofConst1, loadA, TK.isAgg, asVar, unA, builtinA, lenOpA, lenA, ileb_cast, ileb_eq, ieqb_dec, indexAddrA, inB_dec, evPairs, storeA, AV.cellsOf, pairsOf, xI_nil, binBool, gcE, evOpt, xI_block, xI_loopH, xI_condM, xI_exitM, xI_skip, xI_blk, exitA, ty2, ty3, ty33, ty73, eK119_0_0, eK119_1_2, eK119_1_1, eK119_1_0, eK119_2_4, eK119_2_1, eK119_2_0, eK119_3_6, hlt, hlt2, hne, hrd, bn0, hf]
      refine h2.trans ?_
      simp only [R119_2_4, b119, Try.f119, Option.getD, fstC, sndC, bodyC, thnC, elsC]
      simp [xI_seq, xI_region, xI_ret, regA, regOps, runOps, opStep, wantedA, opA, evo, evos, calleeA, lk, nif_eq, putE, paramsE, valS, val2, keepE, restrict, finA, resA, binA, binInt, ofConst, ofConst1, loadA, TK.isAgg, asVar, unA, builtinA, lenOpA, lenA, ileb_cast, ileb_eq, ieqb_dec, indexAddrA, inB_dec, evPairs, storeA, AV.cellsOf, pairsOf, xI_nil, binBool, gcE, evOpt, xI_block, xI_loopH, xI_condM, xI_exitM, xI_skip, xI_blk, exitA, ty2, ty3, ty33, ty73, eK119_0_0, eK119_1_2, eK119_1_1, eK119_1_0, eK119_2_4, eK119_2_1, eK119_2_0, eK119_3_6, hw1]
      exact h5
    · have hne : ((fst1 c es : Nat) : Int) = (es.length : Int) := by omega
      rw [hne] at h1
      obtain ⟨σ2, h5⟩ := ih (c + 1) es σ b (by omega) hl hes hr
      refine ⟨σ2, ?_⟩
      rw [show solves (m + 1) c es = solves m (c + 1) (elim c es) from rfl, elim_no hf]
      rw [fi119] at h1 h5 ⊢
      rw [xl119_0]
      simp only [B119_0, b119, Try.f119, Option.getD, fstC, sndC, bodyC, thnC, elsC]
      simp [xI_seq, xI_region, xI_ret, regA, regOps, runOps, opStep, wantedA, opA, evo, evos, calleeA, lk, nif_eq, putE, paramsE, valS, val2, keepE, restrict, finA, resA, binA, binInt, ofConst, ofConst1, loadA, TK.isAgg, asVar, unA, builtinA, lenOpA, lenA, ileb_cast, ileb_eq, ieqb_dec, indexAddrA, inB_dec, evPairs, storeA, AV.cellsOf, pairsOf, xI_nil, binBool, gcE, evOpt, xI_block, xI_loopH, xI_condM, xI_exitM, xI_skip, xI_blk, exitA, ty2, ty3, ty33, ty73, eK119_0_0, eK119_1_2, eK119_1_1, eK119_1_0, eK119_2_4, eK119_2_1, eK119_2_0, eK119_3_6, hlt, hlt2]
      refine h1.trans ?_
      simp only [R119_1_2, b119, Try.f119, Option.getD, fstC, sndC, bodyC, thnC, elsC]
      simp [xI_seq, xI_region, xI_ret, regA, regOps, runOps, opStep, wantedA, opA, evo, evos, calleeA, lk, nif_eq, putE, paramsE, valS, val2, keepE, restrict, finA, resA, binA, binInt, ofConst, ofConst1, loadA, TK.isAgg, asVar, unA, builtinA, lenOpA, lenA, ileb_cast, ileb_eq, ieqb_dec, indexAddrA, inB_dec, evPairs, storeA, AV.cellsOf, pairsOf, xI_nil, binBool, gcE, evOpt, xI_block, xI_loopH, xI_condM, xI_exitM, xI_skip, xI_blk, exitA, ty2, ty3, ty33, ty73, eK119_0_0, eK119_1_2, eK119_1_1, eK119_1_0, eK119_2_4, eK119_2_1, eK119_2_0, eK119_3_6, hw1]
      exact h5
theorem v119 (w : Nat) (hw : w ≤ 62) (es : List Nat) (hl : es.length ≤ 1000000) (hes : ∀ e ∈ es, e < 2 ^ 62) : FnV TT 119 [.lst es.length (ints (nints es)), .int .u64 w] (.bool (can w es)) := by
  have hO := s120 (nints es) (by rw [nints_length]; exact hl)
  rw [nints_length] at hO
  obtain ⟨b, σ1, c1, r1, _, _⟩ := hO.row (σ := ⟨[], 0⟩) (args := [.lst es.length (ints (nints es))]) rfl
  rw [nints_length] at c1
  obtain ⟨σ', h1⟩ := l119 w hw w 0 es σ1 b (by omega) hl hes r1
  refine FnV.mk fn119 rfl md119 ⟨σ', ?_⟩ (fun _ => rfl) rfl
  rw [show can w es = solves w 0 es from rfl, ← h1, fi119]
  simp [xI_seq, xI_region, xI_ret, regA, regOps, runOps, opStep, wantedA, opA, evo, evos, calleeA, lk, nif_eq, putE, paramsE, valS, val2, keepE, restrict, finA, resA, binA, binInt, ofConst, ofConst1, loadA, TK.isAgg, asVar, unA, builtinA, lenOpA, lenA, ileb_cast, ileb_eq, ieqb_dec, indexAddrA, inB_dec, evPairs, storeA, AV.cellsOf, pairsOf, xI_nil, binBool, gcE, evOpt, xI_block, xI_loopH, xI_condM, xI_exitM, xI_skip, xI_blk, exitA, ty2, ty3, ty33, ty73, eK119_0_0, eK119_1_2, eK119_1_1, eK119_1_0, eK119_2_4, eK119_2_1, eK119_2_0, eK119_3_6, c1]
  rfl

end Go.Proofs.Ytonnbgjbohbibaa
