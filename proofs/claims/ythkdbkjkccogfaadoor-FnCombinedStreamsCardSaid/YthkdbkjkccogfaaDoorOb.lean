/- Contracts that the law of combined streams needs. Nothing is claimed here; no condition. -/
import Derived.Test.YthkdbkjkccogfaaDoorOa
set_option linter.unusedSimpArgs false
set_option linter.unusedVariables false
namespace Go.Proofs.YthkdbkjkccogfaaDoor
open Go Go.Abs
theorem lt_62 {r : Nat} (h : r < 2 ^ 62) : r ≤ 9223372036854775807 := by
  have : (2 : Nat) ^ 62 ≤ 9223372036854775807 := by decide
  omega
theorem pw_32 {k : Nat} (h : k ≤ 32) : pw k ≤ 4294967296 := Nat.pow_le_pow_right (by decide) h
theorem pw_dec32 {k : Nat} (h : k ≤ 32) : wrapA .i64 (((pw k : Nat) : Int) - 1) = ((pw k : Nat) : Int) - 1 := by
  have := pw_32 h
  exact wrapA_id (by omega) (by omega)
theorem nints_append_row {T : Tab} {σ : St} {b n : Nat} {l : List Nat} {x : Nat} {st e : TypeId} (ht : T.ty st = some ⟨.slice e, 1, 24, [.nilS]⟩) (he : T.ty e = some ⟨.int .i64, 1, 8, [.int .i64 0]⟩)
    (hb : Row σ b (nints l)) (hn : n = l.length) (hs : n < 1000000000000) :
    ∃ σ', appendA T (σ.push ⟨[.int .i64 (x : Int)], 1, false⟩) st st (.sl b 0 n n) (.sl σ.n 0 1 1) = some (.sl (σ.n + 1) 0 (n + 1) (n + 1), σ') ∧ Row σ' (σ.n + 1) (nints (l ++ [x])) ∧ σ'.n = σ.n + 2 ∧ ∀ c, c ≠ b → c < σ.n → σ'.get c = σ.get c := by
  rw [nints_append, nints_one]
  exact append_row ht he hb (by rw [nints_length]; exact hn) hs

open Go.Wd
noncomputable def lenOk (x : Int) (y : Int) : Bool := match exec TT 200 (FI.of Tryd.f130 (TT.an 130)) [.code (Tryd.f130.body.getD .skip)] (paramsE 0 [.int .u64 x]) ⟨[], 0⟩ with
  | some (v, _) => v.eqv (.int .i64 y)
  | none => false
set_option maxRecDepth 100000 in
theorem len_tab : (lenOk 0 0 && ((List.range 33).all fun c => lenOk ((2 ^ c : Nat) : Int) ((c : Int) + 1))) = true := by kernel_rfl
theorem len_of {x y : Int} (h : lenOk x y = true) : FnV TT 130 [.int .u64 x] (.int .i64 y) := by
  refine FnV.mk fn130 (c := Tryd.f130.body.getD .skip) rfl md130 ?_ (fun _ => rfl) rfl
  unfold lenOk at h
  cases hx : exec TT 200 (FI.of Tryd.f130 (TT.an 130)) [.code (Tryd.f130.body.getD .skip)] (paramsE 0 [.int .u64 x]) ⟨[], 0⟩ with
  | none => rw [hx] at h; cases h
  | some r =>
    rw [hx] at h
    obtain ⟨v, σ1⟩ := r
    have := eqv_sound _ _ h
    exact ⟨σ1, by rw [exI_iff.2 ⟨200, hx⟩, this]⟩
theorem v130z : FnV TT 130 [.int .u64 0] (.int .i64 0) := by
  have h := len_tab
  rw [Bool.and_eq_true] at h
  exact len_of h.1
theorem v130 (c : Nat) (hc : c ≤ 32) : FnV TT 130 [.int .u64 (pw c : Nat)] (.int .i64 ((c : Int) + 1)) := by
  have h := len_tab
  rw [Bool.and_eq_true, List.all_eq_true] at h
  exact len_of (h.2 c (List.mem_range.2 (by omega)))
theorem v84z : FnV TT 84 [.int .i64 0] (.int .i64 (-1)) := by
  refine FnV.mk fn84 rfl md84 ⟨⟨[], 0⟩, ?_⟩ (fun _ => rfl) rfl
  have h : callI TT 130 [.int .u64 0] ⟨[], 0⟩ = some (.int .i64 0, ⟨[], 0⟩) := v130z _ _ rfl
  have h1 : wrapA .u64 (0 : Int) = 0 := by decide
  have h2 : wrapA .i64 (-1 : Int) = -1 := by decide
  rw [fi84]
  simp [xI_seq, xI_region, xI_ret, regA, regOps, runOps, opStep, wantedA, opA, evo, evos, calleeA, lk, nif_eq, putE, paramsE, valS, val2, keepE, restrict, finA, resA, binA, binInt, ofConst, ofConst1, loadA, TK.isAgg, asVar, unA, builtinA, lenOpA, lenA, ileb_cast, ileb_eq, ieqb_dec, indexAddrA, inB_dec, evPairs, storeA, AV.cellsOf, pairsOf, xI_nil, binBool, gcE, evOpt, tagZ, xI_block, xI_loopH, xI_condM, xI_exitM, xI_skip, xI_blk, exitA, ty2, ty3, ty141, h, h1, h2, convA]
theorem v84 (c : Nat) (hc : c ≤ 32) : FnV TT 84 [.int .i64 (pw c : Nat)] (.int .i64 c) := by
  refine FnV.mk fn84 rfl md84 ⟨⟨[], 0⟩, ?_⟩ (fun _ => rfl) rfl
  have h : callI TT 130 [.int .u64 (pw c : Nat)] ⟨[], 0⟩ = some (.int .i64 ((c : Int) + 1), ⟨[], 0⟩) := v130 c hc _ _ rfl
  have hp := pw_32 hc
  have h1 := n_wrapu (a := pw c) (by omega)
  have h2 : wrapA .i64 ((c : Int) + 1 - 1) = (c : Int) := by rw [wrapA_id (by omega) (by omega)]; omega
  have h3 : wrapA .i64 (c : Int) = (c : Int) := wrapA_id (by omega) (by omega)
  rw [fi84]
  simp [xI_seq, xI_region, xI_ret, regA, regOps, runOps, opStep, wantedA, opA, evo, evos, calleeA, lk, nif_eq, putE, paramsE, valS, val2, keepE, restrict, finA, resA, binA, binInt, ofConst, ofConst1, loadA, TK.isAgg, asVar, unA, builtinA, lenOpA, lenA, ileb_cast, ileb_eq, ieqb_dec, indexAddrA, inB_dec, evPairs, storeA, AV.cellsOf, pairsOf, xI_nil, binBool, gcE, evOpt, tagZ, xI_block, xI_loopH, xI_condM, xI_exitM, xI_skip, xI_blk, exitA, ty2, ty3, ty141, h, h1, h2, h3, convA]
/-- The least unknown, or -1. -/
def ldI (w r : Nat) : Int := if lead w r = w then -1 else (lead w r : Nat)
theorem lead_mod (w r : Nat) : lead w (r % 2 ^ w) = lead w r := by
  rcases Nat.lt_or_ge (lead w r) w with h | h
  · refine lead_eq h ?_ fun i hi => ?_
    · rw [Nat.testBit_mod_two_pow]; simp [h, lead_bit h]
    · rw [Nat.testBit_mod_two_pow]; simp [lead_low hi]
  · have h1 : lead w r = w := Nat.le_antisymm (lead_le w r) h
    rcases Nat.lt_or_ge (lead w (r % 2 ^ w)) w with h2 | h2
    · have := lead_bit h2
      rw [Nat.testBit_mod_two_pow, lead_low (w := w) (n := r) (by omega)] at this
      simp at this
    · rw [h1]; exact Nat.le_antisymm (lead_le _ _) h2
theorem mod_zero {w r : Nat} (h : lead w r = w) : r % 2 ^ w = 0 := by
  apply Nat.eq_of_testBit_eq
  intro i
  rw [Nat.testBit_mod_two_pow, Nat.zero_testBit]
  rcases Nat.lt_or_ge i w with hi | hi
  · rw [lead_low (w := w) (n := r) (by omega)]; simp
  · simp; omega
theorem and_mask (r w : Nat) : andN r (subN (pw w) 1) = modN r (pw w) := Nat.and_two_pow_sub_one_eq_mod r w
theorem c174 (w r : Nat) (hw : w ≤ 32) (hr : r < 2 ^ 62) (σ : St) (e : Nat) (x : Blk) (v : AV) (he : σ.get e = some x) (hx : x.cells = [.int .i64 w, v]) : callI TT 174 [.ptr e 0, .int .i64 r] σ = some (.int .i64 (ldI w r), σ) := by
  have hcw : cellsAt σ (.ptr e 0) 1 = some [.int .i64 w] := by simp [cellsAt, he, hx, getCells, takeN, dropN]
  have hp := pw_32 hw
  have hpp := pw_pos w
  have e1 := sh_1 (b := w) (by omega)
  have e2 : wrapA .i64 (((pw w : Nat) : Int) - 1) = ((subN (pw w) 1 : Nat) : Int) := by rw [pw_dec32 hw]; show _ = ((pw w - 1 : Nat) : Int); omega
  have e3 := n_and (a := r) (b := subN (pw w) 1) (lt_62 hr) (by show pw w - 1 ≤ _; omega)
  rw [and_mask] at e3
  obtain ⟨u, hu⟩ : ∃ u, u = modN r (pw w) := ⟨_, rfl⟩
  rw [← hu] at e3
  have hu1 : u = r % 2 ^ w := hu
  have hul : u < pw w := by rw [hu]; exact Nat.mod_lt _ hpp
  have e4 : wrapA .i64 (-(u : Int)) = -(u : Int) := wrapA_id (by omega) (by omega)
  rw [cI_0 fn174 rfl md174, fi174]
  by_cases h : lead w r = w
  · have h0 : u = 0 := by rw [hu1]; exact mod_zero h
    subst h0
    rw [show ldI w r = -1 by simp [ldI, h]]
    have hd : callI TT 84 [.int .i64 0] σ = some (.int .i64 (-1), σ) := v84z σ _ rfl
    have hz : bitsA .and .i64 0 0 = some (.int .i64 0) := rfl
    have hz2 : wrapA .i64 0 = 0 := by decide
    simp only [show ((0 : Nat) : Int) = 0 from rfl] at e3
    simp [xI_seq, xI_region, xI_ret, regA, regOps, runOps, opStep, wantedA, opA, evo, evos, calleeA, lk, nif_eq, putE, paramsE, valS, val2, keepE, restrict, finA, resA, binA, binInt, ofConst, ofConst1, loadA, TK.isAgg, asVar, unA, builtinA, lenOpA, lenA, ileb_cast, ileb_eq, ieqb_dec, indexAddrA, inB_dec, evPairs, storeA, AV.cellsOf, pairsOf, xI_nil, binBool, gcE, evOpt, tagZ, xI_block, xI_loopH, xI_condM, xI_exitM, xI_skip, xI_blk, exitA, ty2, ty3, ty180, fieldAddrA, ty2, ty3, ty24, ty180, hcw, e1, e2, e3, hd, hz, hz2]
  · have hl : lead w r < w := Nat.lt_of_le_of_ne (lead_le w r) h
    rw [show ldI w r = ((lead w r : Nat) : Int) by simp [ldI, h]]
    have hlu : lead w u = lead w r := by rw [hu1]; exact lead_mod w r
    have hpos : 0 < u := by
      rcases Nat.eq_zero_or_pos u with h0 | h0
      · have := lead_bit (w := w) (n := u) (by omega)
        rw [h0] at this; simp at this
      · exact h0
    have hb : bitsA .and .i64 (u : Int) (-(u : Int)) = some (.int .i64 ((pw (lead w r) : Nat) : Int)) := by
      obtain ⟨u', rfl⟩ : ∃ u', u = u' + 1 := ⟨u - 1, by omega⟩
      have h1 : smallNat .i64 ((u' + 1 : Nat) : Int) (-((u' + 1 : Nat) : Int)) = none := rfl
      unfold bitsA
      rw [h1]
      have h2 : (BitVec.ofInt IntKind.i64.bits ((u' + 1 : Nat) : Int) &&& BitVec.ofInt IntKind.i64.bits (-((u' + 1 : Nat) : Int))).toNat = pw (lead w r) := by
        have h3 := neg_bits (u := u' + 1) (by omega) (by omega)
        rw [and_neg_lead (w := w) (by omega) (by omega) (by omega), hlu] at h3
        exact h3
      simp only [h2]
      have hp2 := pw_32 (k := lead w r) (by omega)
      have h4 : IntKind.i64.wrap ((pw (lead w r) : Nat) : Int) = ((pw (lead w r) : Nat) : Int) := by rw [← wrapA_eq]; exact n_wrap (by omega)
      rw [h4]
    have hd : callI TT 84 [.int .i64 (pw (lead w r) : Nat)] σ = some (.int .i64 (lead w r : Nat), σ) := v84 (lead w r) (by omega) σ _ rfl
    simp [xI_seq, xI_region, xI_ret, regA, regOps, runOps, opStep, wantedA, opA, evo, evos, calleeA, lk, nif_eq, putE, paramsE, valS, val2, keepE, restrict, finA, resA, binA, binInt, ofConst, ofConst1, loadA, TK.isAgg, asVar, unA, builtinA, lenOpA, lenA, ileb_cast, ileb_eq, ieqb_dec, indexAddrA, inB_dec, evPairs, storeA, AV.cellsOf, pairsOf, xI_nil, binBool, gcE, evOpt, tagZ, xI_block, xI_loopH, xI_condM, xI_exitM, xI_skip, xI_blk, exitA, ty2, ty3, ty180, fieldAddrA, ty2, ty3, ty24, ty180, hcw, e1, e2, e3, e4, hb, hd]

/-- Equations in the heap. -/
def ES (σ : St) (e lo w : Nat) (rows : List Nat) (v : AV) : Prop := e < σ.n ∧ lo ≤ σ.n ∧ σ.get e = some ⟨[.int .i64 w, v], 2, false⟩ ∧ ((v = .nilS ∧ rows = []) ∨ ∃ b, lo ≤ b ∧ b ≠ e ∧ v = .sl b 0 rows.length rows.length ∧ Row σ b (nints rows))
theorem ES.w {σ : St} {e lo w : Nat} {rows : List Nat} {v : AV} (h : ES σ e lo w rows v) : cellsAt σ (.ptr e 0) 1 = some [.int .i64 w] := by
  obtain ⟨_, _, h, _⟩ := h
  simp [cellsAt, h, getCells, takeN, dropN]
theorem ES.v {σ : St} {e lo w : Nat} {rows : List Nat} {v : AV} (h : ES σ e lo w rows v) : cellsAt σ (.ptr e 1) 1 = some [v] := by
  obtain ⟨_, _, h, _⟩ := h
  simp [cellsAt, h, getCells, takeN, dropN]
theorem ES.len {σ : St} {e lo w : Nat} {rows : List Nat} {v : AV} (h : ES σ e lo w rows v) : lenA v = some rows.length := by
  obtain ⟨_, _, _, h⟩ := h
  rcases h with ⟨rfl, rfl⟩ | ⟨b, _, _, rfl, _⟩ <;> rfl
/-- Rows that are fit for reducing. -/
def Fine (w : Nat) (rows : List Nat) : Prop := ∀ r ∈ rows, r < 2 ^ (w + 1) ∧ lead w r < w
theorem bit_mod (r l : Nat) : (modN (shrN r l) 2 = 1) ↔ r.testBit l = true := by
  rw [Nat.testBit_eq_decide_div_mod_eq]; simp [modN, shrN]
theorem lt_w {w r : Nat} (hw : w ≤ 32) (h : r < 2 ^ (w + 1)) : r < 2 ^ 62 := Nat.lt_of_lt_of_le h (Nat.pow_le_pow_right (by decide) (by omega))
theorem xor_w {w a b : Nat} (ha : a < 2 ^ (w + 1)) (hb : b < 2 ^ (w + 1)) : xorN a b < 2 ^ (w + 1) := Nat.xor_lt_two_pow ha hb

noncomputable def b173 : Code := Tryd.f173.body.getD .skip
noncomputable def B173_0 : Code := (bodyC (bodyC (sndC (fstC (sndC b173)))))
noncomputable def K173_0 : List It := .lp B173_0 :: .blk 0 :: .code (sndC (sndC b173)) :: []
theorem xl173_0 {fi : FI} {env : Env} {σ : St} : exI TT fi K173_0 env σ = exI TT fi (.code B173_0 :: K173_0) env σ := by unfold K173_0; exact xI_lp
noncomputable def R173_0_0 : List It := .code (sndC (sndC b173)) :: []
theorem eK173_0_0 : exitA 0 K173_0 = some R173_0_0 := rfl
theorem l173 (w : Nat) (hw : w ≤ 32) (σ : St) (e lo : Nat) (rows : List Nat) (v : AV) (hE : ES σ e lo w rows v) (hf : Fine w rows) (len : Nat) (hlen : len = rows.length) (hl : len ≤ 100000) : ∀ (suf pre : List Nat) (row : Nat), rows = pre ++ suf → row < 2 ^ (w + 1) →
    exI TT (FI.of Tryd.f173 (TT.an 173)) K173_0 [(0, .ptr e 0), (1, .int .i64 row), (11, v), (12, .int .i64 len), (13, .int .i64 pre.length)] σ = some (.int .i64 (reduced w suf row : Nat), σ) := by
  intro suf
  induction suf with
  | nil =>
    intro pre row hp hr
    have hll : len = pre.length := by rw [hlen, hp]; simp
    subst hll
    rw [show reduced w [] row = row from rfl]
    rw [fi173]
    rw [xl173_0]
    simp only [B173_0, b173, Tryd.f173, Option.getD, fstC, sndC, bodyC, thnC, elsC]
    simp [xI_seq, xI_region, xI_ret, regA, regOps, runOps, opStep, wantedA, opA, evo, evos, calleeA, lk, nif_eq, putE, paramsE, valS, val2, keepE, restrict, finA, resA, binA, binInt, ofConst, ofConst1, loadA, TK.isAgg, asVar, unA, builtinA, lenOpA, lenA, ileb_cast, ileb_eq, ieqb_dec, indexAddrA, inB_dec, evPairs, storeA, AV.cellsOf, pairsOf, xI_nil, binBool, gcE, evOpt, tagZ, xI_block, xI_loopH, xI_condM, xI_exitM, xI_skip, xI_blk, exitA, ty2, ty3, ty24, ty180, eK173_0_0]
    simp only [R173_0_0, b173, Tryd.f173, Option.getD, fstC, sndC, bodyC, thnC, elsC]
    simp [xI_seq, xI_region, xI_ret, regA, regOps, runOps, opStep, wantedA, opA, evo, evos, calleeA, lk, nif_eq, putE, paramsE, valS, val2, keepE, restrict, finA, resA, binA, binInt, ofConst, ofConst1, loadA, TK.isAgg, asVar, unA, builtinA, lenOpA, lenA, ileb_cast, ileb_eq, ieqb_dec, indexAddrA, inB_dec, evPairs, storeA, AV.cellsOf, pairsOf, xI_nil, binBool, gcE, evOpt, tagZ, xI_block, xI_loopH, xI_condM, xI_exitM, xI_skip, xI_blk, exitA, ty2, ty3, ty24, ty180, eK173_0_0]
  | cons o suf ih =>
    intro pre row hp hr
    have hll : len = pre.length + (suf.length + 1) := by rw [hlen, hp]; simp
    have ho := hf o (by simp [hp])
    have hg : (nints rows)[pre.length]? = some (o : Int) := nints_get (by simp [hp])
    have hlt : ¬ len ≤ pre.length := by omega
    have hlt2 : pre.length < len := by omega
    have hlt3 : pre.length < rows.length := by omega
    have hw1 := wrapS (n := pre.length) (by omega)
    have hcw := hE.w
    obtain ⟨e1, e2, e3, e4⟩ := hE
    have hL := c174 w o hw (lt_w hw ho.1) σ e _ v e3 rfl
    rw [show ldI w o = ((lead w o : Nat) : Int) by unfold ldI; rw [if_neg (by omega)]] at hL
    obtain ⟨b, hb1, hb2, rfl, hrow⟩ : ∃ b, lo ≤ b ∧ b ≠ e ∧ v = .sl b 0 rows.length rows.length ∧ Row σ b (nints rows) := by
      rcases e4 with ⟨_, h⟩ | h
      · rw [h] at hp; simp at hp
      · exact h
    have hrd := hrow.read hg
    have s1 := sh_r (a := row) (b := lead w o) (by omega)
    have hsl : shrN row (lead w o) ≤ row := Nat.div_le_self _ _
    have hr62 := lt_w hw hr
    have s2 := n_and1 (a := shrN row (lead w o)) (lt_62 (by omega))
    have s3 := n_xor (a := row) (b := o) (lt_62 hr62) (lt_62 (lt_w hw ho.1))
    have s4 : ¬ ((lead w o : Nat) : Int) < 0 := by omega
    by_cases hb : row.testBit (lead w o) = true
    · have hm := (bit_mod row (lead w o)).2 hb
      have hm' : ((modN (shrN row (lead w o)) 2 : Nat) : Int) = 1 := by omega
      have h1 := ih (pre ++ [o]) (xorN row o) (by simp [hp]) (xor_w hr ho.1)
      rw [show reduced w (o :: suf) row = reduced w suf (xorN row o) by simp only [reduced, List.foldl_cons]; rw [if_pos hb]; rfl]
      simp only [List.length_append, List.length_singleton] at h1
      rw [fi173] at h1 ⊢
      rw [xl173_0]
      simp only [B173_0, b173, Tryd.f173, Option.getD, fstC, sndC, bodyC, thnC, elsC]
      simp [xI_seq, xI_region, xI_ret, regA, regOps, runOps, opStep, wantedA, opA, evo, evos, calleeA, lk, nif_eq, putE, paramsE, valS, val2, keepE, restrict, finA, resA, binA, binInt, ofConst, ofConst1, loadA, TK.isAgg, asVar, unA, builtinA, lenOpA, lenA, ileb_cast, ileb_eq, ieqb_dec, indexAddrA, inB_dec, evPairs, storeA, AV.cellsOf, pairsOf, xI_nil, binBool, gcE, evOpt, tagZ, xI_block, xI_loopH, xI_condM, xI_exitM, xI_skip, xI_blk, exitA, ty2, ty3, ty24, ty180, eK173_0_0, fieldAddrA, ty2, ty3, ty24, ty180, hlt, hlt2, hlt3, hw1, hcw, hL, hrd, s1, s2, s3, s4, hm, hm']
      simpa using h1
    · have hm : ¬ modN (shrN row (lead w o)) 2 = 1 := fun h => hb ((bit_mod row (lead w o)).1 h)
      have hm' : ¬ ((modN (shrN row (lead w o)) 2 : Nat) : Int) = 1 := by omega
      have h1 := ih (pre ++ [o]) row (by simp [hp]) hr
      rw [show reduced w (o :: suf) row = reduced w suf row by simp only [reduced, List.foldl_cons]; rw [if_neg hb]]
      simp only [List.length_append, List.length_singleton] at h1
      rw [fi173] at h1 ⊢
      rw [xl173_0]
      simp only [B173_0, b173, Tryd.f173, Option.getD, fstC, sndC, bodyC, thnC, elsC]
      simp [xI_seq, xI_region, xI_ret, regA, regOps, runOps, opStep, wantedA, opA, evo, evos, calleeA, lk, nif_eq, putE, paramsE, valS, val2, keepE, restrict, finA, resA, binA, binInt, ofConst, ofConst1, loadA, TK.isAgg, asVar, unA, builtinA, lenOpA, lenA, ileb_cast, ileb_eq, ieqb_dec, indexAddrA, inB_dec, evPairs, storeA, AV.cellsOf, pairsOf, xI_nil, binBool, gcE, evOpt, tagZ, xI_block, xI_loopH, xI_condM, xI_exitM, xI_skip, xI_blk, exitA, ty2, ty3, ty24, ty180, eK173_0_0, fieldAddrA, ty2, ty3, ty24, ty180, hlt, hlt2, hlt3, hw1, hcw, hL, hrd, s1, s2, s3, s4, hm, hm']
      simpa using h1
theorem c173 (w : Nat) (hw : w ≤ 32) (σ : St) (e lo : Nat) (rows : List Nat) (v : AV) (hE : ES σ e lo w rows v) (hf : Fine w rows) (hl : rows.length ≤ 100000) (row : Nat) (hr : row < 2 ^ (w + 1)) :
    callI TT 173 [.ptr e 0, .int .i64 row] σ = some (.int .i64 (reduced w rows row : Nat), σ) := by
  have h := l173 w hw σ e lo rows v hE hf rows.length rfl hl rows [] row rfl hr
  have hv := hE.v
  have hn := hE.len
  simp only [List.length_nil, Int.natCast_zero, show ((0 : Nat) : Int) = 0 from rfl] at h
  rw [cI_0 fn173 rfl md173, ← h, fi173]
  obtain ⟨_, _, _, hE4⟩ := hE
  rcases hE4 with ⟨rfl, rfl⟩ | ⟨b, hb1, hb2, rfl, hrow⟩
  · simp [xI_seq, xI_region, xI_ret, regA, regOps, runOps, opStep, wantedA, opA, evo, evos, calleeA, lk, nif_eq, putE, paramsE, valS, val2, keepE, restrict, finA, resA, binA, binInt, ofConst, ofConst1, loadA, TK.isAgg, asVar, unA, builtinA, lenOpA, lenA, ileb_cast, ileb_eq, ieqb_dec, indexAddrA, inB_dec, evPairs, storeA, AV.cellsOf, pairsOf, xI_nil, binBool, gcE, evOpt, tagZ, xI_block, xI_loopH, xI_condM, xI_exitM, xI_skip, xI_blk, exitA, ty2, ty3, ty24, ty180, eK173_0_0, fieldAddrA, ty2, ty3, ty24, ty180, hv]
    rfl
  · simp [xI_seq, xI_region, xI_ret, regA, regOps, runOps, opStep, wantedA, opA, evo, evos, calleeA, lk, nif_eq, putE, paramsE, valS, val2, keepE, restrict, finA, resA, binA, binInt, ofConst, ofConst1, loadA, TK.isAgg, asVar, unA, builtinA, lenOpA, lenA, ileb_cast, ileb_eq, ieqb_dec, indexAddrA, inB_dec, evPairs, storeA, AV.cellsOf, pairsOf, xI_nil, binBool, gcE, evOpt, tagZ, xI_block, xI_loopH, xI_condM, xI_exitM, xI_skip, xI_blk, exitA, ty2, ty3, ty24, ty180, eK173_0_0, fieldAddrA, ty2, ty3, ty24, ty180, hv]
    rfl
theorem reduced_lt (w : Nat) : ∀ (rows : List Nat) (row : Nat), Fine w rows → row < 2 ^ (w + 1) → reduced w rows row < 2 ^ (w + 1)
  | [], _, _, h => h
  | o :: rows, row, hf, h => by
    simp only [reduced, List.foldl_cons]
    exact reduced_lt w rows _ (fun r hr => hf r (by simp [hr])) (by split; exact xor_w h (hf o (by simp)).1; exact h)

open Go.Wd
theorem append_nil1 {T : Tab} {σ : St} {x : Int} {st e : TypeId} (ht : T.ty st = some ⟨.slice e, 1, 24, [.nilS]⟩) (he : T.ty e = some ⟨.int .i64, 1, 8, [.int .i64 0]⟩) :
    appendA T (σ.push ⟨[.int .i64 x], 1, false⟩) st st .nilS (.sl σ.n 0 1 1) = some (.sl (σ.n + 1) 0 1 1, (σ.push ⟨[.int .i64 x], 1, false⟩).push ⟨[.int .i64 x], 1, true⟩) := by
  unfold appendA
  have h1 : firstA (σ.push ⟨[.int .i64 x], 1, false⟩) 1 1 (.sl σ.n 0 1 1) = some [.int .i64 x] := by
    simp [firstA, get_push_same, getCells, dropN, takeN]
  simp only [ht, he, lenA, h1, allOne, AV.one]
  simp [n_push, newE]
theorem ES.app {T : Tab} {σ : St} {e lo w : Nat} {rows : List Nat} {x : Nat} {v : AV} {st el : TypeId} (ht : T.ty st = some ⟨.slice el, 1, 24, [.nilS]⟩) (he : T.ty el = some ⟨.int .i64, 1, 8, [.int .i64 0]⟩) (h : ES σ e lo w rows v) (hs : rows.length < 1000000) :
    ∃ b' σ1 σ', appendA T (σ.push ⟨[.int .i64 (x : Int)], 1, false⟩) st st v (.sl σ.n 0 1 1) = some (.sl b' 0 (rows.length + 1) (rows.length + 1), σ1) ∧ storeCellsA σ1 e 1 [.sl b' 0 (rows.length + 1) (rows.length + 1)] = some σ' ∧ ES σ' e lo w (rows ++ [x]) (.sl b' 0 (rows.length + 1) (rows.length + 1)) ∧ σ.n ≤ σ'.n ∧ ∀ c, c < lo → c ≠ e → σ'.get c = σ.get c := by
  obtain ⟨h1, h2, h3, h4⟩ := h
  have fin : ∀ σ1 : St, σ1.n = σ.n + 2 → σ1.get e = some ⟨[.int .i64 w, v], 2, false⟩ → Row σ1 (σ.n + 1) (nints (rows ++ [x])) → (∀ c, c < lo → c ≠ e → σ1.get c = σ.get c) →
      ∃ σ', storeCellsA σ1 e 1 [.sl (σ.n + 1) 0 (rows.length + 1) (rows.length + 1)] = some σ' ∧ ES σ' e lo w (rows ++ [x]) (.sl (σ.n + 1) 0 (rows.length + 1) (rows.length + 1)) ∧ σ.n ≤ σ'.n ∧ ∀ c, c < lo → c ≠ e → σ'.get c = σ.get c := by
    intro σ1 hn hq hr hc
    have hr' : Row (σ1.set e ⟨[.int .i64 w, .sl (σ.n + 1) 0 (rows.length + 1) (rows.length + 1)], 2, false⟩) (σ.n + 1) (nints (rows ++ [x])) := hr.keep (Nat.le_refl _) (get_set_ne (by omega))
    refine ⟨σ1.set e ⟨[.int .i64 w, .sl (σ.n + 1) 0 (rows.length + 1) (rows.length + 1)], 2, false⟩, ?_, ⟨?_, ?_, get_set_eq hq, .inr ⟨σ.n + 1, by omega, by omega, by simp, hr'⟩⟩, ?_, ?_⟩
    · simp [storeCellsA, hq, allOne, AV.one, putN, overN]
    · rw [n_set, hn]; omega
    · rw [n_set, hn]; omega
    · rw [n_set, hn]; omega
    · intro c hc2 hce
      rw [get_set_ne (fun h => hce h.symm)]; exact hc c hc2 hce
  rcases h4 with ⟨rfl, rfl⟩ | ⟨b, hb2, hbq, rfl, hr⟩
  · obtain ⟨σ', g1, g2, g3, g4⟩ := fin ((σ.push ⟨[.int .i64 (x : Int)], 1, false⟩).push ⟨[.int .i64 (x : Int)], 1, true⟩) rfl (by rw [get_push_lt (by rw [n_push]; omega), get_push_lt h1]; exact h3) ⟨true, get_push_same, Nat.lt_succ_self _⟩ (fun c hc _ => by rw [get_push_lt (by rw [n_push]; omega), get_push_lt (by omega)])
    exact ⟨σ.n + 1, _, σ', append_nil1 ht he, g1, g2, g3, g4⟩
  · have hrl := hr.lt
    obtain ⟨σ1, ha, hr1, hn, hu⟩ := nints_append_row (x := x) ht he hr (n := rows.length) rfl (by omega)
    obtain ⟨σ', g1, g2, g3, g4⟩ := fin σ1 hn ((hu e (fun h => hbq h.symm) h1).trans h3) hr1 (fun c hc _ => hu c (by omega) (by omega))
    exact ⟨σ.n + 1, σ1, σ', ha, g1, g2, g3, g4⟩
/-- What adding a row makes of another. -/
def clr (w r o : Nat) : Nat := if o.testBit (lead w r) = true then xorN o r else o
/-- An equation: a mask with a right side. -/
def eqn (w mask right : Nat) : Nat := orN mask (shlN right w)
theorem eqn_lt {w mask right : Nat} (hm : mask < 2 ^ w) (hr : right ≤ 1) : eqn w mask right < 2 ^ (w + 1) := by
  have h1 : right * 2 ^ w ≤ 1 * 2 ^ w := Nat.mul_le_mul_right _ hr
  have h2 : 2 ^ (w + 1) = 2 ^ w * 2 := Nat.pow_succ 2 w
  have h3 : 0 < 2 ^ w := Nat.pow_pos (by decide)
  exact Nat.or_lt_two_pow (by omega) (show right * 2 ^ w < _ by omega)
theorem add_eq (w : Nat) (rows : List Nat) (row : Nat) : add w rows row = if lead w (reduced w rows row) = w then (if reduced w rows row = 0 then some rows else none) else some (rows.map (clr w (reduced w rows row)) ++ [reduced w rows row]) := rfl

noncomputable def b156 : Code := Tryd.f156.body.getD .skip
noncomputable def B156_0 : Code := (bodyC (bodyC (sndC (fstC (sndC (sndC (sndC b156)))))))
noncomputable def K156_0 : List It := .lp B156_0 :: .blk 0 :: .code (sndC (sndC (sndC (sndC b156)))) :: []
theorem xl156_0 {fi : FI} {env : Env} {σ : St} : exI TT fi K156_0 env σ = exI TT fi (.code B156_0 :: K156_0) env σ := by unfold K156_0; exact xI_lp
noncomputable def R156_0_0 : List It := .code (sndC (sndC (sndC (sndC b156)))) :: []
theorem eK156_0_0 : exitA 0 K156_0 = some R156_0_0 := rfl
theorem l156 (w : Nat) (hw : w ≤ 32) (e lo : Nat) (rows : List Nat) (v : AV) (hf : Fine w rows) (r : Nat) (hr : r < 2 ^ (w + 1)) (hlr : lead w r < w) (len : Nat) (hlen : len = rows.length) (hl : len ≤ 100000) : ∀ (suf pre : List Nat) (σ : St), rows = pre ++ suf → ES σ e lo w (pre.map (clr w r) ++ suf) v →
    ∃ σ' v', exI TT (FI.of Tryd.f156 (TT.an 156)) K156_0 [(0, .ptr e 0), (7, .int .i64 r), (29, v), (30, .int .i64 len), (31, .int .i64 pre.length)] σ = some (.bool true, σ') ∧ ES σ' e lo w (rows.map (clr w r) ++ [r]) v' ∧ σ.n ≤ σ'.n ∧ ∀ c, c < lo → c ≠ e → σ'.get c = σ.get c := by
  intro suf
  induction suf with
  | nil =>
    intro pre σ hp hE
    have hll : len = pre.length := by rw [hlen, hp]; simp
    have hp : rows = pre := by simpa using hp
    subst hp
    subst hll
    simp only [List.append_nil] at hE
    obtain ⟨b', σ1, σ', a1, a2, a3, a4, a5⟩ := ES.app (x := r) ty24 ty2 hE (by simp; omega)
    have hv := hE.v
    simp only [List.length_map] at a1 a2 a3
    refine ⟨σ', _, ?_, a3, a4, a5⟩
    rw [fi156]
    rw [xl156_0]
    simp only [B156_0, b156, Tryd.f156, Option.getD, fstC, sndC, bodyC, thnC, elsC]
    simp [xI_seq, xI_region, xI_ret, regA, regOps, runOps, opStep, wantedA, opA, evo, evos, calleeA, lk, nif_eq, putE, paramsE, valS, val2, keepE, restrict, finA, resA, binA, binInt, ofConst, ofConst1, loadA, TK.isAgg, asVar, unA, builtinA, lenOpA, lenA, ileb_cast, ileb_eq, ieqb_dec, indexAddrA, inB_dec, evPairs, storeA, AV.cellsOf, pairsOf, xI_nil, binBool, gcE, evOpt, tagZ, xI_block, xI_loopH, xI_condM, xI_exitM, xI_skip, xI_blk, exitA, ty2, ty3, ty24, ty180, eK156_0_0]
    simp only [R156_0_0, b156, Tryd.f156, Option.getD, fstC, sndC, bodyC, thnC, elsC]
    simp [xI_seq, xI_region, xI_ret, regA, regOps, runOps, opStep, wantedA, opA, evo, evos, calleeA, lk, nif_eq, putE, paramsE, valS, val2, keepE, restrict, finA, resA, binA, binInt, ofConst, ofConst1, loadA, TK.isAgg, asVar, unA, builtinA, lenOpA, lenA, ileb_cast, ileb_eq, ieqb_dec, indexAddrA, inB_dec, evPairs, storeA, AV.cellsOf, pairsOf, xI_nil, binBool, gcE, evOpt, tagZ, xI_block, xI_loopH, xI_condM, xI_exitM, xI_skip, xI_blk, exitA, ty2, ty3, ty24, ty180, eK156_0_0, fieldAddrA, ty2, ty3, ty24, ty180, allOne, AV.one, hv, bs1, a1, a2]
  | cons o suf ih =>
    intro pre σ hp hE
    have hll : len = pre.length + (suf.length + 1) := by rw [hlen, hp]; simp
    have ho := hf o (by simp [hp])
    have hlt : ¬ len ≤ pre.length := by omega
    have hlt2 : pre.length < len := by omega
    have hlt3 : pre.length < pre.length + (suf.length + 1) := by omega
    have hw1 := wrapS (n := pre.length) (by omega)
    have hv := hE.v
    have hE0 := hE
    obtain ⟨e1, e2, e3, e4⟩ := hE
    have hL := c174 w r hw (lt_w hw hr) σ e _ v e3 rfl
    rw [show ldI w r = ((lead w r : Nat) : Int) by unfold ldI; rw [if_neg (by omega)]] at hL
    obtain ⟨b, hb1, hb2, rfl, hrow⟩ : ∃ b, lo ≤ b ∧ b ≠ e ∧ v = .sl b 0 (pre.map (clr w r) ++ o :: suf).length (pre.map (clr w r) ++ o :: suf).length ∧ Row σ b (nints (pre.map (clr w r) ++ o :: suf)) := by
      rcases e4 with ⟨_, h⟩ | h
      · simp at h
      · exact h
    have hg : (nints (pre.map (clr w r) ++ o :: suf))[pre.length]? = some (o : Int) := nints_get (by rw [List.getElem?_append_right (by simp)]; simp)
    have hrd := hrow.read hg
    have s1 := sh_r (a := o) (b := lead w r) (by omega)
    have hsl : shrN o (lead w r) ≤ o := Nat.div_le_self _ _
    have ho62 := lt_w hw ho.1
    have s2 := n_and1 (a := shrN o (lead w r)) (lt_62 (by omega))
    have s3 := n_xor (a := o) (b := r) (lt_62 ho62) (lt_62 (lt_w hw hr))
    have s4 : ¬ ((lead w r : Nat) : Int) < 0 := by omega
    have hlenv : (pre.map (clr w r) ++ o :: suf).length = len := by rw [hll]; simp
    by_cases hb : o.testBit (lead w r) = true
    · have hm := (bit_mod o (lead w r)).2 hb
      have hm' : ((modN (shrN o (lead w r)) 2 : Nat) : Int) = 1 := by omega
      obtain ⟨σ1, hst, hr1, hn1, hu1⟩ := store_row (i := pre.length) (x := (xorN o r : Nat)) hrow (by rw [nints_length]; simp)
      rw [nints_set, show (pre.map (clr w r) ++ o :: suf).set pre.length (xorN o r) = (pre ++ [o]).map (clr w r) ++ suf by
        have := List.set_append_right (s := pre.map (clr w r)) (t := o :: suf) pre.length (xorN o r) (by simp)
        rw [this]; simp [clr, hb]] at hr1
      have hE1 : ES σ1 e lo w ((pre ++ [o]).map (clr w r) ++ suf) (.sl b 0 (pre.map (clr w r) ++ o :: suf).length (pre.map (clr w r) ++ o :: suf).length) := by
        refine ⟨by omega, by omega, by rw [hu1 e (fun h => hb2 h.symm)]; exact e3, .inr ⟨b, hb1, hb2, ?_, hr1⟩⟩
        simp
      obtain ⟨σ', v', h1, h2, h3, h4⟩ := ih (pre ++ [o]) σ1 (by simp [hp]) hE1
      refine ⟨σ', v', ?_, h2, by omega, fun c hc hce => (h4 c hc hce).trans (hu1 c (by omega))⟩
      simp only [hlenv, show (pre ++ [o]).length = pre.length + 1 by simp] at h1 hv ⊢
      rw [fi156] at h1 ⊢
      rw [xl156_0]
      simp only [B156_0, b156, Tryd.f156, Option.getD, fstC, sndC, bodyC, thnC, elsC]
      simp [xI_seq, xI_region, xI_ret, regA, regOps, runOps, opStep, wantedA, opA, evo, evos, calleeA, lk, nif_eq, putE, paramsE, valS, val2, keepE, restrict, finA, resA, binA, binInt, ofConst, ofConst1, loadA, TK.isAgg, asVar, unA, builtinA, lenOpA, lenA, ileb_cast, ileb_eq, ieqb_dec, indexAddrA, inB_dec, evPairs, storeA, AV.cellsOf, pairsOf, xI_nil, binBool, gcE, evOpt, tagZ, xI_block, xI_loopH, xI_condM, xI_exitM, xI_skip, xI_blk, exitA, ty2, ty3, ty24, ty180, eK156_0_0, fieldAddrA, ty2, ty3, ty24, ty180, allOne, AV.one, hlt, hlt2, hlt3, hw1, hv, hL, hrd, hst, s1, s2, s3, s4, hm, hm']
      simpa using h1
    · have hm : ¬ modN (shrN o (lead w r)) 2 = 1 := fun h => hb ((bit_mod o (lead w r)).1 h)
      have hm' : ¬ ((modN (shrN o (lead w r)) 2 : Nat) : Int) = 1 := by omega
      have hE1 : ES σ e lo w ((pre ++ [o]).map (clr w r) ++ suf) (.sl b 0 (pre.map (clr w r) ++ o :: suf).length (pre.map (clr w r) ++ o :: suf).length) := by
        have : (pre ++ [o]).map (clr w r) ++ suf = pre.map (clr w r) ++ o :: suf := by simp [clr, hb]
        rw [this]; exact hE0
      obtain ⟨σ', v', h1, h2, h3, h4⟩ := ih (pre ++ [o]) σ (by simp [hp]) hE1
      refine ⟨σ', v', ?_, h2, h3, h4⟩
      simp only [hlenv, show (pre ++ [o]).length = pre.length + 1 by simp] at h1 hv ⊢
      rw [fi156] at h1 ⊢
      rw [xl156_0]
      simp only [B156_0, b156, Tryd.f156, Option.getD, fstC, sndC, bodyC, thnC, elsC]
      simp [xI_seq, xI_region, xI_ret, regA, regOps, runOps, opStep, wantedA, opA, evo, evos, calleeA, lk, nif_eq, putE, paramsE, valS, val2, keepE, restrict, finA, resA, binA, binInt, ofConst, ofConst1, loadA, TK.isAgg, asVar, unA, builtinA, lenOpA, lenA, ileb_cast, ileb_eq, ieqb_dec, indexAddrA, inB_dec, evPairs, storeA, AV.cellsOf, pairsOf, xI_nil, binBool, gcE, evOpt, tagZ, xI_block, xI_loopH, xI_condM, xI_exitM, xI_skip, xI_blk, exitA, ty2, ty3, ty24, ty180, eK156_0_0, fieldAddrA, ty2, ty3, ty24, ty180, hlt, hlt2, hlt3, hw1, hv, hL, hrd, s1, s2, s3, s4, hm, hm']
      simpa using h1

theorem c156y (w : Nat) (hw : w ≤ 32) (e lo : Nat) (rows rows' : List Nat) (v : AV) (σ : St) (hE : ES σ e lo w rows v) (hf : Fine w rows) (hl : rows.length ≤ 100000) (mask right : Nat) (hm : mask < 2 ^ w) (hr : right ≤ 1) (ha : add w rows (eqn w mask right) = some rows') :
    ∃ σ' v', callI TT 156 [.ptr e 0, .int .i64 mask, .int .i64 right] σ = some (.bool true, σ') ∧ ES σ' e lo w rows' v' ∧ σ.n ≤ σ'.n ∧ ∀ c, c < lo → c ≠ e → σ'.get c = σ.get c := by
  have hq := eqn_lt hm hr
  have hred := c173 w hw σ e lo rows v hE hf hl (eqn w mask right) hq
  have hrl := reduced_lt w rows (eqn w mask right) hf hq
  have hv := hE.v
  have hcw := hE.w
  have hn := hE.len
  have hw16 := pw_32 hw
  have hm62 : mask < 4294967296 := by show mask < 4294967296; have : 2 ^ w ≤ 4294967296 := hw16; omega
  have hsl : right * 2 ^ w ≤ 1 * 4294967296 := Nat.mul_le_mul hr hw16
  have s1 := sh_l (a := right) (b := w) (by omega) (by omega)
  have s2 := n_or (a := mask) (b := shlN right w) (by omega) (by show right * 2 ^ w ≤ _; omega)
  have s3 : orN mask (shlN right w) = eqn w mask right := rfl
  rw [s3] at s2
  have hL := c174 w (reduced w rows (eqn w mask right)) hw (lt_w hw hrl) σ e _ v hE.2.2.1 rfl
  rw [add_eq] at ha
  obtain ⟨R, hR⟩ : ∃ R, R = reduced w rows (eqn w mask right) := ⟨_, rfl⟩
  rw [← hR] at hred hL hrl ha
  rw [cI_0 fn156 rfl md156]
  have hw0 : ¬ ((w : Int) < 0) := by omega
  by_cases h1 : lead w R = w
  · rw [if_pos h1] at ha
    by_cases h2 : R = 0
    · rw [if_pos h2] at ha
      cases ha
      refine ⟨σ, v, ?_, hE, Nat.le_refl _, fun _ _ _ => rfl⟩
      rw [show ldI w R = -1 by simp [ldI, h1]] at hL
      subst h2
      simp only [show ((0 : Nat) : Int) = 0 from rfl] at hred hL
      rw [fi156]
      simp [xI_seq, xI_region, xI_ret, regA, regOps, runOps, opStep, wantedA, opA, evo, evos, calleeA, lk, nif_eq, putE, paramsE, valS, val2, keepE, restrict, finA, resA, binA, binInt, ofConst, ofConst1, loadA, TK.isAgg, asVar, unA, builtinA, lenOpA, lenA, ileb_cast, ileb_eq, ieqb_dec, indexAddrA, inB_dec, evPairs, storeA, AV.cellsOf, pairsOf, xI_nil, binBool, gcE, evOpt, tagZ, xI_block, xI_loopH, xI_condM, xI_exitM, xI_skip, xI_blk, exitA, ty2, ty3, ty24, ty180, eK156_0_0, fieldAddrA, ty2, ty3, ty24, ty180, hcw, hv, s1, s2, hred, hL, hw0]
    · rw [if_neg h2] at ha; cases ha
  · rw [if_neg h1] at ha
    cases ha
    have hlw : lead w R < w := Nat.lt_of_le_of_ne (lead_le w R) h1
    rw [show ldI w R = ((lead w R : Nat) : Int) by simp [ldI, h1]] at hL
    have hl0 : ¬ (((lead w R : Nat) : Int) < 0) := by omega
    obtain ⟨σ', v', g1, g2, g3, g4⟩ := l156 w hw e lo rows v hf R hrl hlw rows.length rfl hl rows [] σ rfl (by simpa using hE)
    refine ⟨σ', v', ?_, g2, g3, g4⟩
    simp only [List.length_nil, Int.natCast_zero, show ((0 : Nat) : Int) = 0 from rfl] at g1
    rw [← g1, fi156]
    obtain ⟨_, _, _, hE4⟩ := hE
    rcases hE4 with ⟨rfl, rfl⟩ | ⟨b, hb1, hb2, rfl, hrow⟩
    · simp [xI_seq, xI_region, xI_ret, regA, regOps, runOps, opStep, wantedA, opA, evo, evos, calleeA, lk, nif_eq, putE, paramsE, valS, val2, keepE, restrict, finA, resA, binA, binInt, ofConst, ofConst1, loadA, TK.isAgg, asVar, unA, builtinA, lenOpA, lenA, ileb_cast, ileb_eq, ieqb_dec, indexAddrA, inB_dec, evPairs, storeA, AV.cellsOf, pairsOf, xI_nil, binBool, gcE, evOpt, tagZ, xI_block, xI_loopH, xI_condM, xI_exitM, xI_skip, xI_blk, exitA, ty2, ty3, ty24, ty180, eK156_0_0, fieldAddrA, ty2, ty3, ty24, ty180, hcw, hv, s1, s2, hred, hL, hw0, hl0]
      rfl
    · simp [xI_seq, xI_region, xI_ret, regA, regOps, runOps, opStep, wantedA, opA, evo, evos, calleeA, lk, nif_eq, putE, paramsE, valS, val2, keepE, restrict, finA, resA, binA, binInt, ofConst, ofConst1, loadA, TK.isAgg, asVar, unA, builtinA, lenOpA, lenA, ileb_cast, ileb_eq, ieqb_dec, indexAddrA, inB_dec, evPairs, storeA, AV.cellsOf, pairsOf, xI_nil, binBool, gcE, evOpt, tagZ, xI_block, xI_loopH, xI_condM, xI_exitM, xI_skip, xI_blk, exitA, ty2, ty3, ty24, ty180, eK156_0_0, fieldAddrA, ty2, ty3, ty24, ty180, hcw, hv, s1, s2, hred, hL, hw0, hl0]
      rfl
theorem c156n (w : Nat) (hw : w ≤ 32) (e lo : Nat) (rows : List Nat) (v : AV) (σ : St) (hE : ES σ e lo w rows v) (hf : Fine w rows) (hl : rows.length ≤ 100000) (mask right : Nat) (hm : mask < 2 ^ w) (hr : right ≤ 1) (ha : add w rows (eqn w mask right) = none) :
    callI TT 156 [.ptr e 0, .int .i64 mask, .int .i64 right] σ = some (.bool false, σ) := by
  have hq := eqn_lt hm hr
  have hred := c173 w hw σ e lo rows v hE hf hl (eqn w mask right) hq
  have hrl := reduced_lt w rows (eqn w mask right) hf hq
  have hv := hE.v
  have hcw := hE.w
  have hw16 := pw_32 hw
  have hm62 : mask < 4294967296 := by show mask < 4294967296; have : 2 ^ w ≤ 4294967296 := hw16; omega
  have hsl : right * 2 ^ w ≤ 1 * 4294967296 := Nat.mul_le_mul hr hw16
  have s1 := sh_l (a := right) (b := w) (by omega) (by omega)
  have s2 := n_or (a := mask) (b := shlN right w) (by omega) (by show right * 2 ^ w ≤ _; omega)
  have s3 : orN mask (shlN right w) = eqn w mask right := rfl
  rw [s3] at s2
  have hL := c174 w (reduced w rows (eqn w mask right)) hw (lt_w hw hrl) σ e _ v hE.2.2.1 rfl
  rw [add_eq] at ha
  obtain ⟨R, hR⟩ : ∃ R, R = reduced w rows (eqn w mask right) := ⟨_, rfl⟩
  rw [← hR] at hred hL hrl ha
  rw [cI_0 fn156 rfl md156]
  have hw0 : ¬ ((w : Int) < 0) := by omega
  by_cases h1 : lead w R = w
  · rw [if_pos h1] at ha
    by_cases h2 : R = 0
    · rw [if_pos h2] at ha; cases ha
    · rw [show ldI w R = -1 by simp [ldI, h1]] at hL
      have h2' : ¬ ((R : Int) = 0) := by omega
      rw [fi156]
      simp [xI_seq, xI_region, xI_ret, regA, regOps, runOps, opStep, wantedA, opA, evo, evos, calleeA, lk, nif_eq, putE, paramsE, valS, val2, keepE, restrict, finA, resA, binA, binInt, ofConst, ofConst1, loadA, TK.isAgg, asVar, unA, builtinA, lenOpA, lenA, ileb_cast, ileb_eq, ieqb_dec, indexAddrA, inB_dec, evPairs, storeA, AV.cellsOf, pairsOf, xI_nil, binBool, gcE, evOpt, tagZ, xI_block, xI_loopH, xI_condM, xI_exitM, xI_skip, xI_blk, exitA, ty2, ty3, ty24, ty180, eK156_0_0, fieldAddrA, ty2, ty3, ty24, ty180, hcw, hv, s1, s2, hred, hL, hw0, h2, h2']
  · rw [if_neg h1] at ha; cases ha

noncomputable def b157 : Code := Tryd.f157.body.getD .skip
noncomputable def B157_0 : Code := (bodyC (bodyC (sndC (fstC (sndC (sndC b157))))))
noncomputable def K157_0 : List It := .lp B157_0 :: .blk 0 :: .code (sndC (sndC (sndC b157))) :: []
theorem xl157_0 {fi : FI} {env : Env} {σ : St} : exI TT fi K157_0 env σ = exI TT fi (.code B157_0 :: K157_0) env σ := by unfold K157_0; exact xI_lp
noncomputable def R157_0_0 : List It := .code (sndC (sndC (sndC b157))) :: []
theorem eK157_0_0 : exitA 0 K157_0 = some R157_0_0 := rfl
theorem least_lt (w : Nat) : ∀ (rows : List Nat) (out : Nat), Fine w rows → out < 2 ^ w → rows.foldl (fun out r => out ||| r / 2 ^ w * 2 ^ lead w r) out < 2 ^ w
  | [], _, _, h => h
  | r :: rows, out, hf, h => by
    rw [List.foldl_cons]
    have h1 := hf r (by simp)
    have h2 : r / 2 ^ w ≤ 1 := by
      have : r / 2 ^ w < 2 := by rw [Nat.div_lt_iff_lt_mul (Nat.pow_pos (by decide))]; have := h1.1; rw [Nat.pow_succ] at this; omega
      omega
    have h3 : r / 2 ^ w * 2 ^ lead w r ≤ 1 * 2 ^ lead w r := Nat.mul_le_mul_right _ h2
    have h4 : 2 ^ lead w r < 2 ^ w := Nat.pow_lt_pow_right (by decide) h1.2
    exact least_lt w rows _ (fun r hr => hf r (by simp [hr])) (Nat.or_lt_two_pow h (by omega))
set_option maxHeartbeats 1000000 in
theorem l157 (w : Nat) (hw : w ≤ 32) (σ : St) (e lo : Nat) (rows : List Nat) (v : AV) (hE : ES σ e lo w rows v) (hf : Fine w rows) (len : Nat) (hlen : len = rows.length) (hl : len ≤ 100000) : ∀ (suf pre : List Nat) (out : Nat), rows = pre ++ suf → out < 2 ^ w →
    exI TT (FI.of Tryd.f157 (TT.an 157)) K157_0 [(0, .ptr e 0), (3, .int .i64 out), (9, v), (10, .int .i64 len), (11, .int .i64 pre.length)] σ = some (.int .i64 (suf.foldl (fun out r => out ||| r / 2 ^ w * 2 ^ lead w r) out : Nat), σ) := by
  intro suf
  induction suf with
  | nil =>
    intro pre out hp ho
    have hll : len = pre.length := by rw [hlen, hp]; simp
    subst hll
    simp only [List.foldl_nil]
    rw [fi157]
    rw [xl157_0]
    simp only [B157_0, b157, Tryd.f157, Option.getD, fstC, sndC, bodyC, thnC, elsC]
    simp [xI_seq, xI_region, xI_ret, regA, regOps, runOps, opStep, wantedA, opA, evo, evos, calleeA, lk, nif_eq, putE, paramsE, valS, val2, keepE, restrict, finA, resA, binA, binInt, ofConst, ofConst1, loadA, TK.isAgg, asVar, unA, builtinA, lenOpA, lenA, ileb_cast, ileb_eq, ieqb_dec, indexAddrA, inB_dec, evPairs, storeA, AV.cellsOf, pairsOf, xI_nil, binBool, gcE, evOpt, tagZ, xI_block, xI_loopH, xI_condM, xI_exitM, xI_skip, xI_blk, exitA, ty2, ty3, ty24, ty180, eK157_0_0]
    simp only [R157_0_0, b157, Tryd.f157, Option.getD, fstC, sndC, bodyC, thnC, elsC]
    simp [xI_seq, xI_region, xI_ret, regA, regOps, runOps, opStep, wantedA, opA, evo, evos, calleeA, lk, nif_eq, putE, paramsE, valS, val2, keepE, restrict, finA, resA, binA, binInt, ofConst, ofConst1, loadA, TK.isAgg, asVar, unA, builtinA, lenOpA, lenA, ileb_cast, ileb_eq, ieqb_dec, indexAddrA, inB_dec, evPairs, storeA, AV.cellsOf, pairsOf, xI_nil, binBool, gcE, evOpt, tagZ, xI_block, xI_loopH, xI_condM, xI_exitM, xI_skip, xI_blk, exitA, ty2, ty3, ty24, ty180, eK157_0_0]
  | cons r suf ih =>
    intro pre out hp ho
    have hll : len = pre.length + (suf.length + 1) := by rw [hlen, hp]; simp
    have hr := hf r (by simp [hp])
    have hg : (nints rows)[pre.length]? = some (r : Int) := nints_get (by simp [hp])
    have hlt : ¬ len ≤ pre.length := by omega
    have hlt2 : pre.length < len := by omega
    have hlt3 : pre.length < rows.length := by omega
    have hw1 := wrapS (n := pre.length) (by omega)
    have hcw := hE.w
    have hw16 : 2 ^ w ≤ 4294967296 := pw_32 hw
    have hls := least_lt w [r] out (fun x hx => by rw [List.mem_singleton.1 hx]; exact hr) ho
    simp only [List.foldl_cons, List.foldl_nil] at hls
    obtain ⟨e1, e2, e3, e4⟩ := hE
    have hL := c174 w r hw (lt_w hw hr.1) σ e _ v e3 rfl
    rw [show ldI w r = ((lead w r : Nat) : Int) by unfold ldI; rw [if_neg (by omega)]] at hL
    obtain ⟨b, hb1, hb2, rfl, hrow⟩ : ∃ b, lo ≤ b ∧ b ≠ e ∧ v = .sl b 0 rows.length rows.length ∧ Row σ b (nints rows) := by
      rcases e4 with ⟨_, h⟩ | h
      · rw [h] at hp; simp at hp
      · exact h
    have hrd := hrow.read hg
    have s1 := sh_r (a := r) (b := w) (by omega)
    have h2 : shrN r w ≤ 1 := by
      have : r / 2 ^ w < 2 := by rw [Nat.div_lt_iff_lt_mul (Nat.pow_pos (by decide))]; have := hr.1; rw [Nat.pow_succ] at this; omega
      show r / 2 ^ w ≤ 1; omega
    have h3 : shrN r w * 2 ^ lead w r ≤ 1 * 4294967296 := Nat.mul_le_mul h2 (pw_32 (by omega))
    have s2 := sh_l (a := shrN r w) (b := lead w r) (by omega) (by omega)
    have s3 := n_or (a := out) (b := shlN (shrN r w) (lead w r)) (by omega) (by show shrN r w * 2 ^ lead w r ≤ _; omega)
    have s4 : ¬ ((lead w r : Nat) : Int) < 0 := by omega
    have s5 : ¬ ((w : Int) < 0) := by omega
    have h1 := ih (pre ++ [r]) (orN out (shlN (shrN r w) (lead w r))) (by simp [hp]) hls
    rw [List.foldl_cons, show out ||| r / 2 ^ w * 2 ^ lead w r = orN out (shlN (shrN r w) (lead w r)) from rfl]
    simp only [List.length_append, List.length_singleton] at h1
    rw [fi157] at h1 ⊢
    rw [xl157_0]
    simp only [B157_0, b157, Tryd.f157, Option.getD, fstC, sndC, bodyC, thnC, elsC]
    simp [xI_seq, xI_region, xI_ret, regA, regOps, runOps, opStep, wantedA, opA, evo, evos, calleeA, lk, nif_eq, putE, paramsE, valS, val2, keepE, restrict, finA, resA, binA, binInt, ofConst, ofConst1, loadA, TK.isAgg, asVar, unA, builtinA, lenOpA, lenA, ileb_cast, ileb_eq, ieqb_dec, indexAddrA, inB_dec, evPairs, storeA, AV.cellsOf, pairsOf, xI_nil, binBool, gcE, evOpt, tagZ, xI_block, xI_loopH, xI_condM, xI_exitM, xI_skip, xI_blk, exitA, ty2, ty3, ty24, ty180, eK157_0_0, runTr, pairsOk, pairOk, lstAt, lastOf, sameVal, AV.eqv, eqvs, eqvs_ints, regOps, blt_dec, cond_true, cond_false, fieldAddrA, ty2, ty3, ty24, ty180, hlt, hlt2, hlt3, hw1, hcw, hL, hrd, s1, s2, s3, s4, s5]
    simpa using h1
theorem c157 (w : Nat) (hw : w ≤ 32) (σ : St) (e lo : Nat) (rows : List Nat) (v : AV) (hE : ES σ e lo w rows v) (hf : Fine w rows) (hl : rows.length ≤ 100000) :
    callI TT 157 [.ptr e 0] σ = some (.int .i64 (least w rows : Nat), σ) := by
  have h := l157 w hw σ e lo rows v hE hf rows.length rfl hl rows [] 0 rfl (Nat.pow_pos (by decide))
  have hv := hE.v
  simp only [List.length_nil, Int.natCast_zero, show ((0 : Nat) : Int) = 0 from rfl] at h
  rw [cI_0 fn157 rfl md157, show least w rows = rows.foldl (fun out r => out ||| r / 2 ^ w * 2 ^ lead w r) 0 from rfl, ← h, fi157]
  obtain ⟨_, _, _, hE4⟩ := hE
  rcases hE4 with ⟨rfl, rfl⟩ | ⟨b, hb1, hb2, rfl, hrow⟩
  · simp [xI_seq, xI_region, xI_ret, regA, regOps, runOps, opStep, wantedA, opA, evo, evos, calleeA, lk, nif_eq, putE, paramsE, valS, val2, keepE, restrict, finA, resA, binA, binInt, ofConst, ofConst1, loadA, TK.isAgg, asVar, unA, builtinA, lenOpA, lenA, ileb_cast, ileb_eq, ieqb_dec, indexAddrA, inB_dec, evPairs, storeA, AV.cellsOf, pairsOf, xI_nil, binBool, gcE, evOpt, tagZ, xI_block, xI_loopH, xI_condM, xI_exitM, xI_skip, xI_blk, exitA, ty2, ty3, ty24, ty180, eK157_0_0, fieldAddrA, ty2, ty3, ty24, ty180, hv]
    rfl
  · simp [xI_seq, xI_region, xI_ret, regA, regOps, runOps, opStep, wantedA, opA, evo, evos, calleeA, lk, nif_eq, putE, paramsE, valS, val2, keepE, restrict, finA, resA, binA, binInt, ofConst, ofConst1, loadA, TK.isAgg, asVar, unA, builtinA, lenOpA, lenA, ileb_cast, ileb_eq, ieqb_dec, indexAddrA, inB_dec, evPairs, storeA, AV.cellsOf, pairsOf, xI_nil, binBool, gcE, evOpt, tagZ, xI_block, xI_loopH, xI_condM, xI_exitM, xI_skip, xI_blk, exitA, ty2, ty3, ty24, ty180, eK157_0_0, fieldAddrA, ty2, ty3, ty24, ty180, hv]
    rfl

open Go.Wd
open Go.Wd
/-- The bits of a register, and of a text. -/
def regS (w t n i : Nat) : Bool := decide (rbit w (endR w t i n) = 1)
def bitf (l : List UInt8) (i : Nat) : Bool := decide (l[i]? = some 49)
theorem rnext_bit {w t n k : Nat} (hn : n < 2 ^ w) (hk : k < w) : (rnext w t n).testBit k = if k + 1 < w then n.testBit (k + 1) else decide (par (andN t n) = 1) := by
  obtain ⟨w, rfl⟩ : ∃ v, w = v + 1 := ⟨w - 1, by omega⟩
  have hp := par_lt (andN t n)
  rw [rnext, if_neg (by omega)]
  show (n / 2 ^ 1 ||| par (andN t n) * 2 ^ (w + 1 - 1)).testBit k = _
  rw [Nat.add_sub_cancel, Nat.testBit_or, Nat.testBit_div_two_pow]
  have hb : (par (andN t n) * 2 ^ w).testBit k = (decide (k = w) && decide (par (andN t n) = 1)) := by
    have : par (andN t n) = 0 ∨ par (andN t n) = 1 := by omega
    rcases this with h | h <;> rw [h]
    · simp
    · rw [Nat.one_mul, Nat.testBit_two_pow]; simp; exact eq_comm
  rw [hb]
  by_cases h : k + 1 < w + 1
  · have h2 : ¬ k = w := by omega
    rw [if_pos h, decide_eq_false h2, Bool.false_and, Bool.or_false]
  · have h2 : k = w := by omega
    subst h2
    have : n.testBit (1 + k) = false := Nat.testBit_lt_two_pow (by rw [Nat.add_comm]; exact hn)
    rw [Nat.add_comm] at this
    rw [if_neg h, this, decide_eq_true rfl, Bool.true_and, Bool.false_or]
theorem state_bit {w t n : Nat} (hn : n < 2 ^ w) : ∀ k i, k < w → (endR w t i n).testBit k = regS w t n (i + k)
  | 0, i, h => by
    have hw : ¬ w = 0 := by omega
    rw [Nat.testBit_zero, regS, rbit, if_neg hw]; rfl
  | k + 1, i, h => by
    have h1 := rnext_bit (t := t) (endR_lt (t := t) hn i) (k := k) (by omega)
    rw [if_pos h, ← endR_succ] at h1
    rw [← h1, state_bit hn k (i + 1) (by omega), show i + 1 + k = i + (k + 1) by omega]
theorem regS_gen {w t n : Nat} (hw : w ≤ 64) (ht : t < 2 ^ w) (hn : n < 2 ^ w) (N : Nat) : Gen w t.testBit (regS w t n) N := by
  intro i _
  by_cases h0 : w = 0
  · subst h0
    simp [regS, rbit, xs]
  have h1 := rnext_bit (t := t) (endR_lt (t := t) hn i) (k := w - 1) (by omega)
  rw [if_neg (by omega), ← endR_succ, state_bit hn (w - 1) (i + 1) (by omega), show i + 1 + (w - 1) = i + w by omega] at h1
  rw [h1]
  have h2 : par (andN t (endR w t i n)) = (xs w (fun k => t.testBit k && (endR w t i n).testBit k)).toNat := par_and ht hw
  have h3 : xs w (fun k => t.testBit k && (endR w t i n).testBit k) = xs w (fun k => t.testBit k && regS w t n (i + k)) := xs_congr w (fun k hk => by rw [state_bit hn k i hk])
  rw [h2, h3]
  cases xs w (fun k => t.testBit k && regS w t n (i + k)) <;> rfl
theorem bb_bit {r : Nat} (h : r < 2) : decide (bb r = 49) = decide (r = 1) := by
  have : r = 0 ∨ r = 1 := by omega
  rcases this with rfl | rfl <;> rfl
theorem bitf_out {w t n m i : Nat} (h : i < m) : bitf (outR w t m n) i = regS w t n i := by
  rw [bitf, outR_get w t m n i h, regS]
  rw [← bb_bit (rbit_lt w _)]
  simp
open Go.Wd
theorem bit_get {l : List UInt8} (h : l.all isBit = true) {i : Nat} (hi : i < l.length) : l[i]? = some (bb (bitf l i).toNat) := by
  obtain ⟨x, hx⟩ := get_at hi
  have hb := isBit_at h hx
  have h2 : x = bb (bitf l i).toNat := by
    apply UInt8.toNat_inj.1
    rw [bitf, hx]
    rcases hb with e | e
    · have : x = 48 := UInt8.toNat_inj.1 e
      subst this; rfl
    · have : x = 49 := UInt8.toNat_inj.1 e
      subst this; rfl
  rw [hx, h2]
theorem u8_sub {r : Nat} (h : r < 2) : wrapA .u8 (((bb r).toNat : Int) - 48) = (r : Int) := by
  rw [bb_nat h, show (((48 + r : Nat) : Int) - 48) = ((r : Nat) : Int) by omega]
  exact w_wrap .u8 (by simp only [topOf]; omega)
theorem u8_conv {r : Nat} (h : r < 2) (σ : St) : convA TT σ 5 2 (.int .u8 (r : Int)) = some (.int .i64 (r : Int), σ) := by
  have := n_wrap (a := r) (by omega)
  simp [convA, ty5, ty2, this]
theorem toNat_lt (b : Bool) : b.toNat < 2 := by cases b <;> decide
theorem ofB_62 {f : Nat → Bool} {k : Nat} (h : k ≤ 40) : ofB k f ≤ 1099511627776 := Nat.le_of_lt (Nat.lt_of_lt_of_le (ofB_lt f k) (Nat.pow_le_pow_right (by decide) h))
theorem pw_40 {k : Nat} (h : k ≤ 40) : 2 ^ k ≤ 1099511627776 := Nat.pow_le_pow_right (by decide) h
theorem add_len {w : Nat} {rows rows' : List Nat} {r : Nat} (h : add w rows r = some rows') : rows'.length ≤ rows.length + 1 := by
  rw [add_eq] at h
  split at h
  · split at h
    · cases h; omega
    · cases h
  · cases h; simp

noncomputable def b118 : Code := Tryd.f118.body.getD .skip
noncomputable def B118_0 : Code := (bodyC (bodyC (sndC (fstC (sndC (sndC b118))))))
noncomputable def K118_0 : List It := .lp B118_0 :: .blk 0 :: .code (sndC (sndC (sndC b118))) :: []
theorem xl118_0 {fi : FI} {env : Env} {σ : St} : exI TT fi K118_0 env σ = exI TT fi (.code B118_0 :: K118_0) env σ := by unfold K118_0; exact xI_lp
noncomputable def R118_0_0 : List It := .code (sndC (sndC (sndC b118))) :: []
theorem eK118_0_0 : exitA 0 K118_0 = some R118_0_0 := rfl
noncomputable def B118_1 : Code := (bodyC (bodyC (sndC (fstC (sndC (bodyC (fstC (sndC (bodyC (bodyC (sndC (fstC (sndC (sndC b118))))))))))))))
noncomputable def K118_1 : List It := .lp B118_1 :: .blk 2 :: .code (sndC (sndC (bodyC (fstC (sndC (bodyC (bodyC (sndC (fstC (sndC (sndC b118))))))))))) :: .blk 1 :: .code (sndC (sndC (bodyC (bodyC (sndC (fstC (sndC (sndC b118)))))))) :: K118_0
theorem xl118_1 {fi : FI} {env : Env} {σ : St} : exI TT fi K118_1 env σ = exI TT fi (.code B118_1 :: K118_1) env σ := by unfold K118_1; exact xI_lp
noncomputable def R118_1_2 : List It := .code (sndC (sndC (bodyC (fstC (sndC (bodyC (bodyC (sndC (fstC (sndC (sndC b118))))))))))) :: .blk 1 :: .code (sndC (sndC (bodyC (bodyC (sndC (fstC (sndC (sndC b118)))))))) :: K118_0
theorem eK118_1_2 : exitA 2 K118_1 = some R118_1_2 := rfl
noncomputable def R118_1_1 : List It := .code (sndC (sndC (bodyC (bodyC (sndC (fstC (sndC (sndC b118)))))))) :: K118_0
theorem eK118_1_1 : exitA 1 K118_1 = some R118_1_1 := rfl
theorem eK118_1_0 : exitA 0 K118_1 = some R118_0_0 := rfl
set_option maxHeartbeats 1000000 in
theorem i118 (l : List UInt8) (hl : l.length ≤ 32) (hb : l.all isBit = true) (w t e : Nat) (hw : t + w ≤ l.length) (σ : St) : ∀ m k : Nat, k + m = w →
    exI TT (FI.of Tryd.f118 (TT.an 118)) K118_1 [(0, .str l), (1, .int .i64 w), (6, .ptr e 0), (7, .int .i64 t), (8, .int .i64 (ofB k (fun i => bitf l (t + i)) : Nat)), (21, .int .i64 w), (22, .int .i64 k)] σ = exI TT (FI.of Tryd.f118 (TT.an 118)) K118_1 [(0, .str l), (1, .int .i64 w), (6, .ptr e 0), (7, .int .i64 t), (8, .int .i64 (ofB w (fun i => bitf l (t + i)) : Nat)), (21, .int .i64 w), (22, .int .i64 w)] σ := by
  intro m
  induction m with
  | zero =>
    intro k hk
    obtain rfl : k = w := by omega
    rfl
  | succ m ih =>
    intro k hk
    have h1 := ih (k + 1) (by omega)
    rw [← h1]
    clear h1 ih
    have hlt0 : t + k < l.length := by omega
    have hbg := bit_get hb (i := t + k) hlt0
    have hb2 := toNat_lt (bitf l (t + k))
    have hus := u8_sub hb2
    have huc : ∀ σ, convA TT σ 5 2 (.int .u8 (((bitf l (t + k)).toNat : Nat) : Int)) = some (.int .i64 (((bitf l (t + k)).toNat : Nat) : Int), σ) := u8_conv hb2
    have hp40 := pw_40 (k := k) (by omega)
    have hm40 : (bitf l (t + k)).toNat * 2 ^ k ≤ 1 * 2 ^ k := Nat.mul_le_mul_right _ (by omega)
    have hsl := sh_l (a := (bitf l (t + k)).toNat) (b := k) (by omega) (by omega)
    have ho40 := ofB_62 (f := fun i => bitf l (t + i)) (k := k) (by omega)
    have hor := n_or (a := ofB k (fun i => bitf l (t + i))) (b := shlN (bitf l (t + k)).toNat k) (by omega) (by show (bitf l (t + k)).toNat * 2 ^ k ≤ _; omega)
    rw [show orN (ofB k (fun i => bitf l (t + i))) (shlN (bitf l (t + k)).toNat k) = ofB (k + 1) (fun i => bitf l (t + i)) from rfl] at hor
    have hlt : (k : Int) < (w : Int) := by omega
    have hnle : ¬ w ≤ k := by omega
    have hwk := wrapS (n := k) (by omega)
    have hwt : wrapA .i64 ((t : Int) + (k : Int)) = ((t + k : Nat) : Int) := by rw [wrapA_id (by omega) (by omega)]; omega
    have hneg : ¬ (k : Int) < 0 := by omega
    have hi1 : ((k + 1 : Nat) : Int) = (k : Int) + 1 := by omega
    rw [hi1]
    generalize ofB (k + 1) (fun i => bitf l (t + i)) = z at *
    generalize ofB k (fun i => bitf l (t + i)) = y at *
    generalize (bitf l (t + k)).toNat = r at *
    generalize t + k = tk at *
    conv => lhs; rw [fi118, xl118_1]; simp only [B118_1, b118, Tryd.f118, Option.getD, fstC, sndC, bodyC, thnC, elsC]
    rw [fi118]
    simp [xI_seq, xI_region, xI_ret, regA, regOps, runOps, opStep, wantedA, opA, evo, evos, calleeA, lk, nif_eq, putE, paramsE, valS, val2, keepE, restrict, finA, resA, binA, binInt, ofConst, ofConst1, loadA, TK.isAgg, asVar, unA, builtinA, lenOpA, lenA, ileb_cast, ileb_eq, ieqb_dec, indexAddrA, inB_dec, evPairs, storeA, AV.cellsOf, pairsOf, xI_nil, binBool, gcE, evOpt, tagZ, xI_block, xI_loopH, xI_condM, xI_exitM, xI_skip, xI_blk, exitA, ty2, ty3, ty4, ty5, ty9, ty180, eK118_0_0, eK118_1_2, eK118_1_1, eK118_1_0, runTr, pairsOk, pairOk, lstAt, lastOf, sameVal, AV.eqv, eqvs, eqvs_ints, regOps, blt_dec, cond_true, cond_false, fieldAddrA, allOne, AV.one, n_push, ty2, ty9, ty5, ty3, ty24, ty36, indexA, hbg, hus, huc, hsl, hor, hlt, hnle, hwk, hwt, hneg]
/-- What taps there are. -/
def tapO (w : Nat) : Option (List Nat) → AV
  | none => .tup [.int .i64 0, .bool false]
  | some R => .tup [.int .i64 (least w R : Nat), .bool true]
set_option maxHeartbeats 2000000 in
theorem l118 (l : List UInt8) (hl : l.length ≤ 32) (hb : l.all isBit = true) (w e lo : Nat) (hw : w ≤ l.length) : ∀ (m t : Nat) (rows : List Nat) (v : AV) (σ : St), t + m + w = l.length → rows.length ≤ t → Red w rows → ES σ e lo w rows v →
    ∃ σ', exI TT (FI.of Tryd.f118 (TT.an 118)) K118_0 [(0, .str l), (1, .int .i64 w), (6, .ptr e 0), (7, .int .i64 t)] σ = some (tapO w (addAll w rows (eqsF (bitf l) w t m)), σ') := by
  intro m
  induction m with
  | zero =>
    intro t rows v σ ht hrl hred hE
    have hwt : wrapA .i64 ((t : Int) + (w : Int)) = (l.length : Int) := by rw [wrapA_id (by omega) (by omega)]; omega
    have hls := c157 w (by omega) σ e lo rows v hE hred.ok (by omega)
    refine ⟨σ, ?_⟩
    simp only [eqsF, addAll, tapO]
    rw [fi118]
    rw [xl118_0]
    simp only [B118_0, b118, Tryd.f118, Option.getD, fstC, sndC, bodyC, thnC, elsC]
    simp [xI_seq, xI_region, xI_ret, regA, regOps, runOps, opStep, wantedA, opA, evo, evos, calleeA, lk, nif_eq, putE, paramsE, valS, val2, keepE, restrict, finA, resA, binA, binInt, ofConst, ofConst1, loadA, TK.isAgg, asVar, unA, builtinA, lenOpA, lenA, ileb_cast, ileb_eq, ieqb_dec, indexAddrA, inB_dec, evPairs, storeA, AV.cellsOf, pairsOf, xI_nil, binBool, gcE, evOpt, tagZ, xI_block, xI_loopH, xI_condM, xI_exitM, xI_skip, xI_blk, exitA, ty2, ty3, ty4, ty5, ty9, ty180, eK118_0_0, eK118_1_2, eK118_1_1, eK118_1_0, runTr, pairsOk, pairOk, lstAt, lastOf, sameVal, AV.eqv, eqvs, eqvs_ints, regOps, blt_dec, cond_true, cond_false, fieldAddrA, allOne, AV.one, n_push, ty2, ty9, ty5, ty3, ty24, ty36, indexA, hwt]
    simp only [R118_0_0, b118, Tryd.f118, Option.getD, fstC, sndC, bodyC, thnC, elsC]
    simp [xI_seq, xI_region, xI_ret, regA, regOps, runOps, opStep, wantedA, opA, evo, evos, calleeA, lk, nif_eq, putE, paramsE, valS, val2, keepE, restrict, finA, resA, binA, binInt, ofConst, ofConst1, loadA, TK.isAgg, asVar, unA, builtinA, lenOpA, lenA, ileb_cast, ileb_eq, ieqb_dec, indexAddrA, inB_dec, evPairs, storeA, AV.cellsOf, pairsOf, xI_nil, binBool, gcE, evOpt, tagZ, xI_block, xI_loopH, xI_condM, xI_exitM, xI_skip, xI_blk, exitA, ty2, ty3, ty4, ty5, ty9, ty180, eK118_0_0, eK118_1_2, eK118_1_1, eK118_1_0, runTr, pairsOk, pairOk, lstAt, lastOf, sameVal, AV.eqv, eqvs, eqvs_ints, regOps, blt_dec, cond_true, cond_false, fieldAddrA, allOne, AV.one, n_push, ty2, ty9, ty5, ty3, ty24, ty36, indexA, hls]
  | succ m ih =>
    intro t rows v σ ht hrl hred hE
    have h0 := i118 l hl hb w t e (by omega) σ w 0 (by omega)
    have hlt0 : t + w < l.length := by omega
    have hbg := bit_get hb (i := t + w) hlt0
    have hb2 := toNat_lt (bitf l (t + w))
    have hus := u8_sub hb2
    have huc : ∀ σ, convA TT σ 5 2 (.int .u8 (((bitf l (t + w)).toNat : Nat) : Int)) = some (.int .i64 (((bitf l (t + w)).toNat : Nat) : Int), σ) := u8_conv hb2
    have hp40 := pw_40 (k := w) (by omega)
    have hm40 : (bitf l (t + w)).toNat * 2 ^ w ≤ 1 * 2 ^ w := Nat.mul_le_mul_right _ (by omega)
    have hsl := sh_l (a := (bitf l (t + w)).toNat) (b := w) (by omega) (by omega)
    have hwt : wrapA .i64 ((t : Int) + (w : Int)) = ((t + w : Nat) : Int) := by rw [wrapA_id (by omega) (by omega)]; omega
    have hwn := wrapS (n := t) (by omega)
    have hlt1 : ((t + w : Nat) : Int) < (l.length : Int) := by omega
    have hlt2 : ¬ l.length ≤ t + w := by omega
    have hol := ofB_lt (fun i => bitf l (t + i)) w
    have heq : eqn w (ofB w (fun i => bitf l (t + i))) (bitf l (t + w)).toNat = ofB (w + 1) (fun i => bitf l (t + i)) := rfl
    have hel : ofB (w + 1) (fun i => bitf l (t + i)) < 2 ^ (w + 1) := ofB_lt _ _
    simp only [ofB, show ((0 : Nat) : Int) = 0 from rfl, Int.natCast_zero] at h0
    rw [show eqsF (bitf l) w t (m + 1) = ofB (w + 1) (fun i => bitf l (t + i)) :: eqsF (bitf l) w (t + 1) m from rfl, addAll]
    cases ha : add w rows (ofB (w + 1) (fun i => bitf l (t + i))) with
    | none =>
      have hA := c156n w (by omega) e lo rows v σ hE hred.ok (by omega) (ofB w (fun i => bitf l (t + i))) (bitf l (t + w)).toNat hol (by omega) (by rw [heq]; exact ha)
      refine ⟨σ, ?_⟩
      simp only [tapO]
      clear ih hE
      generalize ofB w (fun i => bitf l (t + i)) = y at *
      generalize (bitf l (t + w)).toNat = r at *
      generalize t + w = tw at *
      rw [fi118] at h0 ⊢
      rw [xl118_0]
      simp only [B118_0, b118, Tryd.f118, Option.getD, fstC, sndC, bodyC, thnC, elsC]
      simp [xI_seq, xI_region, xI_ret, regA, regOps, runOps, opStep, wantedA, opA, evo, evos, calleeA, lk, nif_eq, putE, paramsE, valS, val2, keepE, restrict, finA, resA, binA, binInt, ofConst, ofConst1, loadA, TK.isAgg, asVar, unA, builtinA, lenOpA, lenA, ileb_cast, ileb_eq, ieqb_dec, indexAddrA, inB_dec, evPairs, storeA, AV.cellsOf, pairsOf, xI_nil, binBool, gcE, evOpt, tagZ, xI_block, xI_loopH, xI_condM, xI_exitM, xI_skip, xI_blk, exitA, ty2, ty3, ty4, ty5, ty9, ty180, eK118_0_0, eK118_1_2, eK118_1_1, eK118_1_0, runTr, pairsOk, pairOk, lstAt, lastOf, sameVal, AV.eqv, eqvs, eqvs_ints, regOps, blt_dec, cond_true, cond_false, fieldAddrA, allOne, AV.one, n_push, ty2, ty9, ty5, ty3, ty24, ty36, indexA, hwt, hlt1, hlt2]
      refine h0.trans ?_
      rw [xl118_1]
      simp only [B118_1, b118, Tryd.f118, Option.getD, fstC, sndC, bodyC, thnC, elsC]
      simp [xI_seq, xI_region, xI_ret, regA, regOps, runOps, opStep, wantedA, opA, evo, evos, calleeA, lk, nif_eq, putE, paramsE, valS, val2, keepE, restrict, finA, resA, binA, binInt, ofConst, ofConst1, loadA, TK.isAgg, asVar, unA, builtinA, lenOpA, lenA, ileb_cast, ileb_eq, ieqb_dec, indexAddrA, inB_dec, evPairs, storeA, AV.cellsOf, pairsOf, xI_nil, binBool, gcE, evOpt, tagZ, xI_block, xI_loopH, xI_condM, xI_exitM, xI_skip, xI_blk, exitA, ty2, ty3, ty4, ty5, ty9, ty180, eK118_0_0, eK118_1_2, eK118_1_1, eK118_1_0, runTr, pairsOk, pairOk, lstAt, lastOf, sameVal, AV.eqv, eqvs, eqvs_ints, regOps, blt_dec, cond_true, cond_false, fieldAddrA, allOne, AV.one, n_push, ty2, ty9, ty5, ty3, ty24, ty36, indexA]
      simp only [R118_1_2, b118, Tryd.f118, Option.getD, fstC, sndC, bodyC, thnC, elsC]
      simp [xI_seq, xI_region, xI_ret, regA, regOps, runOps, opStep, wantedA, opA, evo, evos, calleeA, lk, nif_eq, putE, paramsE, valS, val2, keepE, restrict, finA, resA, binA, binInt, ofConst, ofConst1, loadA, TK.isAgg, asVar, unA, builtinA, lenOpA, lenA, ileb_cast, ileb_eq, ieqb_dec, indexAddrA, inB_dec, evPairs, storeA, AV.cellsOf, pairsOf, xI_nil, binBool, gcE, evOpt, tagZ, xI_block, xI_loopH, xI_condM, xI_exitM, xI_skip, xI_blk, exitA, ty2, ty3, ty4, ty5, ty9, ty180, eK118_0_0, eK118_1_2, eK118_1_1, eK118_1_0, runTr, pairsOk, pairOk, lstAt, lastOf, sameVal, AV.eqv, eqvs, eqvs_ints, regOps, blt_dec, cond_true, cond_false, fieldAddrA, allOne, AV.one, n_push, ty2, ty9, ty5, ty3, ty24, ty36, indexA, hbg, hus, huc, hwt, hA]
    | some rows' =>
      obtain ⟨σ1, v1, hA, hE1, hn1, ho1⟩ := c156y w (by omega) e lo rows rows' v σ hE hred.ok (by omega) (ofB w (fun i => bitf l (t + i))) (bitf l (t + w)).toNat hol (by omega) (by rw [heq]; exact ha)
      have hred1 := (addAll_some [ofB (w + 1) (fun i => bitf l (t + i))] rows rows' hred (by simpa using hel) (by simp [addAll, ha])).1
      obtain ⟨σ', h1⟩ := ih (t + 1) rows' v1 σ1 (by omega) (by have := add_len ha; omega) hred1 hE1
      refine ⟨σ', ?_⟩
      rw [← h1]
      clear h1 ih hE hE1
      have hi1 : ((t + 1 : Nat) : Int) = (t : Int) + 1 := by omega
      rw [hi1]
      generalize ofB w (fun i => bitf l (t + i)) = y at *
      generalize (bitf l (t + w)).toNat = r at *
      generalize t + w = tw at *
      conv => lhs; rw [fi118, xl118_0]; simp only [B118_0, b118, Tryd.f118, Option.getD, fstC, sndC, bodyC, thnC, elsC]
      rw [fi118] at h0 ⊢
      simp [xI_seq, xI_region, xI_ret, regA, regOps, runOps, opStep, wantedA, opA, evo, evos, calleeA, lk, nif_eq, putE, paramsE, valS, val2, keepE, restrict, finA, resA, binA, binInt, ofConst, ofConst1, loadA, TK.isAgg, asVar, unA, builtinA, lenOpA, lenA, ileb_cast, ileb_eq, ieqb_dec, indexAddrA, inB_dec, evPairs, storeA, AV.cellsOf, pairsOf, xI_nil, binBool, gcE, evOpt, tagZ, xI_block, xI_loopH, xI_condM, xI_exitM, xI_skip, xI_blk, exitA, ty2, ty3, ty4, ty5, ty9, ty180, eK118_0_0, eK118_1_2, eK118_1_1, eK118_1_0, runTr, pairsOk, pairOk, lstAt, lastOf, sameVal, AV.eqv, eqvs, eqvs_ints, regOps, blt_dec, cond_true, cond_false, fieldAddrA, allOne, AV.one, n_push, ty2, ty9, ty5, ty3, ty24, ty36, indexA, hwt, hlt1, hlt2]
      refine h0.trans ?_
      conv => lhs; rw [xl118_1]; simp only [B118_1, b118, Tryd.f118, Option.getD, fstC, sndC, bodyC, thnC, elsC]
      simp [xI_seq, xI_region, xI_ret, regA, regOps, runOps, opStep, wantedA, opA, evo, evos, calleeA, lk, nif_eq, putE, paramsE, valS, val2, keepE, restrict, finA, resA, binA, binInt, ofConst, ofConst1, loadA, TK.isAgg, asVar, unA, builtinA, lenOpA, lenA, ileb_cast, ileb_eq, ieqb_dec, indexAddrA, inB_dec, evPairs, storeA, AV.cellsOf, pairsOf, xI_nil, binBool, gcE, evOpt, tagZ, xI_block, xI_loopH, xI_condM, xI_exitM, xI_skip, xI_blk, exitA, ty2, ty3, ty4, ty5, ty9, ty180, eK118_0_0, eK118_1_2, eK118_1_1, eK118_1_0, runTr, pairsOk, pairOk, lstAt, lastOf, sameVal, AV.eqv, eqvs, eqvs_ints, regOps, blt_dec, cond_true, cond_false, fieldAddrA, allOne, AV.one, n_push, ty2, ty9, ty5, ty3, ty24, ty36, indexA]
      simp only [R118_1_2, b118, Tryd.f118, Option.getD, fstC, sndC, bodyC, thnC, elsC]
      simp [xI_seq, xI_region, xI_ret, regA, regOps, runOps, opStep, wantedA, opA, evo, evos, calleeA, lk, nif_eq, putE, paramsE, valS, val2, keepE, restrict, finA, resA, binA, binInt, ofConst, ofConst1, loadA, TK.isAgg, asVar, unA, builtinA, lenOpA, lenA, ileb_cast, ileb_eq, ieqb_dec, indexAddrA, inB_dec, evPairs, storeA, AV.cellsOf, pairsOf, xI_nil, binBool, gcE, evOpt, tagZ, xI_block, xI_loopH, xI_condM, xI_exitM, xI_skip, xI_blk, exitA, ty2, ty3, ty4, ty5, ty9, ty180, eK118_0_0, eK118_1_2, eK118_1_1, eK118_1_0, runTr, pairsOk, pairOk, lstAt, lastOf, sameVal, AV.eqv, eqvs, eqvs_ints, regOps, blt_dec, cond_true, cond_false, fieldAddrA, allOne, AV.one, n_push, ty2, ty9, ty5, ty3, ty24, ty36, indexA, hbg, hus, huc, hwt, hA, hwn]
theorem v118 (l : List UInt8) (hl : l.length ≤ 32) (hb : l.all isBit = true) (w : Nat) (hw : w ≤ l.length) : FnV TT 118 [.str l, .int .i64 w] (tapO w (addAll w [] (eqsF (bitf l) w 0 (l.length - w)))) := by
  obtain ⟨σ, hσ⟩ : ∃ σ, (⟨[], 0⟩ : St).push ⟨[.int .i64 w, .nilS], 2, false⟩ = σ := ⟨_, rfl⟩
  have hE : ES σ 0 1 w [] .nilS := ⟨by subst hσ; exact Nat.succ_pos _, by subst hσ; exact Nat.le_refl _, by subst hσ; rfl, Or.inl ⟨rfl, rfl⟩⟩
  obtain ⟨σ', h⟩ := l118 l hl hb w 0 1 hw (l.length - w) 0 [] .nilS σ (by omega) (Nat.le_refl _) (red_nil w) hE
  simp only [show ((0 : Nat) : Int) = 0 from rfl, Int.natCast_zero] at h
  have hsc : ∀ o : Option (List Nat), ∀ σ : St, frzV σ frzDepth (tapO w o) = some (tapO w o) := by intro o σ; cases o <;> rfl
  have hsd : ∀ o : Option (List Nat), (tapO w o).scal = true := by intro o; cases o <;> rfl
  refine FnV.mk fn118 rfl md118 ⟨σ', ?_⟩ (fun σ => hsc _ σ) (hsd _)
  rw [← h, fi118]
  simp [xI_seq, xI_region, xI_ret, regA, regOps, runOps, opStep, wantedA, opA, evo, evos, calleeA, lk, nif_eq, putE, paramsE, valS, val2, keepE, restrict, finA, resA, binA, binInt, ofConst, ofConst1, loadA, TK.isAgg, asVar, unA, builtinA, lenOpA, lenA, ileb_cast, ileb_eq, ieqb_dec, indexAddrA, inB_dec, evPairs, storeA, AV.cellsOf, pairsOf, xI_nil, binBool, gcE, evOpt, tagZ, xI_block, xI_loopH, xI_condM, xI_exitM, xI_skip, xI_blk, exitA, ty2, ty3, ty4, ty5, ty9, ty180, eK118_0_0, eK118_1_2, eK118_1_1, eK118_1_0, runTr, pairsOk, pairOk, lstAt, lastOf, sameVal, AV.eqv, eqvs, eqvs_ints, regOps, blt_dec, cond_true, cond_false, fieldAddrA, allOne, AV.one, n_push, ty2, ty9, ty5, ty3, ty24, ty36, indexA, ty180, buildA, sizesOf, fillA, putCells, hσ]
  rfl

open Go.Wd
noncomputable def bmL (l : List UInt8) : Nat := Classical.choose (BM.ex (bitf l) l.length)
theorem bmL_lst (l : List UInt8) : Lst (bmL l) (bitf l) l.length := (Classical.choose_spec (BM.ex (bitf l) l.length)).lst
theorem bmL_le (l : List UInt8) : bmL l ≤ l.length := (bmL_lst l).le (d := bitf l) (Gen.far (Nat.le_refl _))
/-- The equations of a text. -/
def eqL (l : List UInt8) (w : Nat) : List Nat := eqsF (bitf l) w 0 (l.length - w)
theorem eqL_lt {l : List UInt8} {w : Nat} : ∀ e ∈ eqL l w, e < 2 ^ (w + 1) := eqsF_lt
theorem eqL_can {l : List UInt8} {w : Nat} (hw : w < 64) : can w (eqL l w) = true ↔ ∃ c, Gen w c (bitf l) l.length := can_gen hw
theorem adN {l : List UInt8} {w : Nat} (hw : w < bmL l) (h64 : w < 64) : addAll w [] (eqL l w) = none := by
  have h := can_addAll h64 (es := eqL l w) eqL_lt
  cases ha : addAll w [] (eqL l w) with
  | none => rfl
  | some R => rw [ha] at h; exact absurd ((eqL_can h64).1 h) ((bmL_lst l).2 w hw)
theorem adY {l : List UInt8} (h64 : bmL l < 64) : ∃ R, addAll (bmL l) [] (eqL l (bmL l)) = some R := by
  have h := can_addAll h64 (es := eqL l (bmL l)) eqL_lt
  rw [(eqL_can h64).2 (bmL_lst l).1] at h
  cases ha : addAll (bmL l) [] (eqL l (bmL l)) with
  | none => rw [ha] at h; cases h
  | some R => exact ⟨R, rfl⟩
/-- The least taps of the least width. -/
noncomputable def bmT (l : List UInt8) : Nat := greedyL (bmL l) (bmL l) (eqL l (bmL l)) 0
theorem bmT_eq {l : List UInt8} (h64 : bmL l < 64) {R : List Nat} (h : addAll (bmL l) [] (eqL l (bmL l)) = some R) : least (bmL l) R = bmT l := (greedyL_least h64 eqL_lt h).symm
def srOk (l : List UInt8) : Bool := isBits l && decide (l.length ≤ 32)
noncomputable def b72 : Code := Tryd.f72.body.getD .skip
noncomputable def B72_0 : Code := (bodyC (bodyC (sndC (sndC b72))))
noncomputable def K72_0 : List It := .lp B72_0 :: .blk 0 :: []
theorem xl72_0 {fi : FI} {env : Env} {σ : St} : exI TT fi K72_0 env σ = exI TT fi (.code B72_0 :: K72_0) env σ := by unfold K72_0; exact xI_lp
noncomputable def R72_0_0 : List It := []
theorem eK72_0_0 : exitA 0 K72_0 = some R72_0_0 := rfl
theorem l72 (l : List UInt8) (hl : l.length ≤ 32) (hb : l.all isBit = true) (σ : St) : ∀ m k : Nat, k + m = bmL l →
    exI TT (FI.of Tryd.f72 (TT.an 72)) K72_0 [(0, .str l), (4, .int .i64 k)] σ = some (.tup [.int .i64 (bmL l), .int .i64 (bmT l)], σ) := by
  have hL := bmL_le l
  intro m
  induction m with
  | zero =>
    intro k hk
    obtain rfl : k = bmL l := by omega
    obtain ⟨R, hR⟩ := adY (l := l) (by omega)
    have hT := bmT_eq (by omega) hR
    have c1 := v118 l hl hb (bmL l) hL σ [.str l, .int .i64 (bmL l)] rfl
    rw [show eqsF (bitf l) (bmL l) 0 (l.length - bmL l) = eqL l (bmL l) from rfl, hR, tapO, hT] at c1
    rw [fi72]
    rw [xl72_0]
    simp only [B72_0, b72, Tryd.f72, Option.getD, fstC, sndC, bodyC, thnC, elsC]
    simp [xI_seq, xI_region, xI_ret, regA, regOps, runOps, opStep, wantedA, opA, evo, evos, calleeA, lk, nif_eq, putE, paramsE, valS, val2, keepE, restrict, finA, resA, binA, binInt, ofConst, ofConst1, loadA, TK.isAgg, asVar, unA, builtinA, lenOpA, lenA, ileb_cast, ileb_eq, ieqb_dec, indexAddrA, inB_dec, evPairs, storeA, AV.cellsOf, pairsOf, xI_nil, binBool, gcE, evOpt, tagZ, xI_block, xI_loopH, xI_condM, xI_exitM, xI_skip, xI_blk, exitA, ty3, eK72_0_0, runTr, pairsOk, pairOk, lstAt, lastOf, sameVal, AV.eqv, eqvs, eqvs_ints, regOps, blt_dec, cond_true, cond_false, fieldAddrA, allOne, AV.one, n_push, ty2, ty9, ty5, ty3, ty24, ty36, indexA, c1]
  | succ m ih =>
    intro k hk
    have h1 := ih (k + 1) (by omega)
    have hN := adN (l := l) (w := k) (by omega) (by omega)
    have c1 := v118 l hl hb k (by omega) σ [.str l, .int .i64 k] rfl
    rw [show eqsF (bitf l) k 0 (l.length - k) = eqL l k from rfl, hN, tapO] at c1
    have hw := wrapS (n := k) (by omega)
    rw [fi72] at h1 ⊢
    rw [xl72_0]
    simp only [B72_0, b72, Tryd.f72, Option.getD, fstC, sndC, bodyC, thnC, elsC]
    simp [xI_seq, xI_region, xI_ret, regA, regOps, runOps, opStep, wantedA, opA, evo, evos, calleeA, lk, nif_eq, putE, paramsE, valS, val2, keepE, restrict, finA, resA, binA, binInt, ofConst, ofConst1, loadA, TK.isAgg, asVar, unA, builtinA, lenOpA, lenA, ileb_cast, ileb_eq, ieqb_dec, indexAddrA, inB_dec, evPairs, storeA, AV.cellsOf, pairsOf, xI_nil, binBool, gcE, evOpt, tagZ, xI_block, xI_loopH, xI_condM, xI_exitM, xI_skip, xI_blk, exitA, ty3, eK72_0_0, runTr, pairsOk, pairOk, lstAt, lastOf, sameVal, AV.eqv, eqvs, eqvs_ints, regOps, blt_dec, cond_true, cond_false, fieldAddrA, allOne, AV.one, n_push, ty2, ty9, ty5, ty3, ty24, ty36, indexA, c1, hw]
    simpa using h1
theorem v72 (l : List UInt8) (hl : l.length ≤ 32) (hb : l.all isBit = true) : FnV TT 72 [.str l] (.tup [.int .i64 (bmL l), .int .i64 (bmT l)]) := by
  refine FnV.mk fn72 rfl md72 ⟨⟨[], 0⟩, ?_⟩ (fun _ => rfl) rfl
  have h := l72 l hl hb ⟨[], 0⟩ (bmL l) 0 (by omega)
  simp only [show ((0 : Nat) : Int) = 0 from rfl, Int.natCast_zero] at h
  rw [← h, fi72]
  simp [xI_seq, xI_region, xI_ret, regA, regOps, runOps, opStep, wantedA, opA, evo, evos, calleeA, lk, nif_eq, putE, paramsE, valS, val2, keepE, restrict, finA, resA, binA, binInt, ofConst, ofConst1, loadA, TK.isAgg, asVar, unA, builtinA, lenOpA, lenA, ileb_cast, ileb_eq, ieqb_dec, indexAddrA, inB_dec, evPairs, storeA, AV.cellsOf, pairsOf, xI_nil, binBool, gcE, evOpt, tagZ, xI_block, xI_loopH, xI_condM, xI_exitM, xI_skip, xI_blk, exitA, ty3, eK72_0_0]
  rfl

theorem v71 (l : List UInt8) (hl : l.length < 1000000000) : FnV TT 71 [.str l] (.bool (srOk l)) := by
  refine FnV.mk fn71 rfl md71 ⟨⟨[], 0⟩, ?_⟩ (fun _ => rfl) rfl
  have c1 := v63 l (by omega) ⟨[], 0⟩ [.str l] rfl
  rw [fi71, srOk]
  cases hb : isBits l with
  | false =>
    rw [hb] at c1
    simp [xI_seq, xI_region, xI_ret, regA, regOps, runOps, opStep, wantedA, opA, evo, evos, calleeA, lk, nif_eq, putE, paramsE, valS, val2, keepE, restrict, finA, resA, binA, binInt, ofConst, ofConst1, loadA, TK.isAgg, asVar, unA, builtinA, lenOpA, lenA, ileb_cast, ileb_eq, ieqb_dec, indexAddrA, inB_dec, evPairs, storeA, AV.cellsOf, pairsOf, xI_nil, binBool, gcE, evOpt, tagZ, xI_block, xI_loopH, xI_condM, xI_exitM, xI_skip, xI_blk, exitA, ty3, runTr, pairsOk, pairOk, lstAt, lastOf, sameVal, AV.eqv, eqvs, eqvs_ints, regOps, blt_dec, cond_true, cond_false, fieldAddrA, allOne, AV.one, n_push, ty2, ty9, ty5, ty3, ty24, ty36, indexA, c1]
  | true =>
    rw [hb] at c1
    by_cases h : l.length ≤ 32
    · have h' : (l.length : Int) ≤ 32 := by omega
      simp [xI_seq, xI_region, xI_ret, regA, regOps, runOps, opStep, wantedA, opA, evo, evos, calleeA, lk, nif_eq, putE, paramsE, valS, val2, keepE, restrict, finA, resA, binA, binInt, ofConst, ofConst1, loadA, TK.isAgg, asVar, unA, builtinA, lenOpA, lenA, ileb_cast, ileb_eq, ieqb_dec, indexAddrA, inB_dec, evPairs, storeA, AV.cellsOf, pairsOf, xI_nil, binBool, gcE, evOpt, tagZ, xI_block, xI_loopH, xI_condM, xI_exitM, xI_skip, xI_blk, exitA, ty3, runTr, pairsOk, pairOk, lstAt, lastOf, sameVal, AV.eqv, eqvs, eqvs_ints, regOps, blt_dec, cond_true, cond_false, fieldAddrA, allOne, AV.one, n_push, ty2, ty9, ty5, ty3, ty24, ty36, indexA, c1, h, h']
    · have h' : ¬ (l.length : Int) ≤ 32 := by omega
      simp [xI_seq, xI_region, xI_ret, regA, regOps, runOps, opStep, wantedA, opA, evo, evos, calleeA, lk, nif_eq, putE, paramsE, valS, val2, keepE, restrict, finA, resA, binA, binInt, ofConst, ofConst1, loadA, TK.isAgg, asVar, unA, builtinA, lenOpA, lenA, ileb_cast, ileb_eq, ieqb_dec, indexAddrA, inB_dec, evPairs, storeA, AV.cellsOf, pairsOf, xI_nil, binBool, gcE, evOpt, tagZ, xI_block, xI_loopH, xI_condM, xI_exitM, xI_skip, xI_blk, exitA, ty3, runTr, pairsOk, pairOk, lstAt, lastOf, sameVal, AV.eqv, eqvs, eqvs_ints, regOps, blt_dec, cond_true, cond_false, fieldAddrA, allOne, AV.one, n_push, ty2, ty9, ty5, ty3, ty24, ty36, indexA, c1, h, h']

theorem RGB.new : RGB ((⟨[], 0⟩ : St).push ⟨[.int .i64 0, .int .i64 0], 2, false⟩) 0 0 0 := get_push_same
open Go.Wd
/-- A function that yields a value in a heap of its own; what it was given, and what it yields, is frozen. -/
def FnF (T : Tab) (f : FuncId) (args' : List AV) (v : AV) : Prop := ∀ (σ : St) (args : List AV), mapO (frzV σ frzDepth) args = some args' → args.flatMap (rowsV σ frzDepth) = [] → callI T f args σ = some (v, σ)
theorem FnF.mk {T : Tab} {f : FuncId} {F : Func} {c : Code} {args' : List AV} {v : AV} (hF : T.fn f = some F) (hB : F.body = some c) (hm : (T.an f).mode = 1)
    (hx : ∃ σ1 v0, exI T (FI.of F (T.an f)) [.code c] (paramsE 0 args') ⟨[], 0⟩ = some (v0, σ1) ∧ frzV σ1 frzDepth v0 = some v) : FnF T f args' v := by
  intro σ args ha hr
  obtain ⟨σ1, v0, hx, hv⟩ := hx
  refine cI_1 hF hB hm ha hx ?_
  unfold frzR
  rw [hv, hr]
  simp only [St.dels]
  split <;> rfl
end Go.Proofs.YthkdbkjkccogfaaDoor
