/- Contracts behind the law of registers of machines, laid out of the texts of the same hand. Nothing is claimed here; no condition. -/
import Derived.Test.YthkdbkjkccogfaaDoorRa
set_option linter.unusedSimpArgs false
set_option linter.unusedVariables false
namespace Go.Proofs.YthkdbkjkccogfaaDoor
open Go Go.Abs
theorem lt_62 {r : Nat} (h : r < 2 ^ 62) : r ≤ 9223372036854775807 := by
  have : (2 : Nat) ^ 62 ≤ 9223372036854775807 := by decide
  omega
theorem xorN_lt {a b : Nat} (ha : a < 2 ^ 62) (hb : b < 2 ^ 62) : xorN a b < 2 ^ 62 := Nat.xor_lt_two_pow ha hb
theorem pw_32 {k : Nat} (h : k ≤ 32) : pw k ≤ 4294967296 := Nat.pow_le_pow_right (by decide) h
theorem pw_dec32 {k : Nat} (h : k ≤ 32) : wrapA .i64 (((pw k : Nat) : Int) - 1) = ((pw k : Nat) : Int) - 1 := by
  have := pw_32 h
  exact wrapA_id (by omega) (by omega)
theorem nints_append_row {T : Tab} {σ : St} {b n : Nat} {l : List Nat} {x : Nat} {st e : TypeId} (ht : T.ty st = some ⟨.slice e, 1, 24, [.nilS]⟩) (he : T.ty e = some ⟨.int .i64, 1, 8, [.int .i64 0]⟩)
    (hb : Row σ b (nints l)) (hn : n = l.length) (hs : n < 1000000000000) :
    ∃ σ', appendA T (σ.push ⟨[.int .i64 (x : Int)], 1, false⟩) st st (.sl b 0 n n) (.sl σ.n 0 1 1) = some (.sl (σ.n + 1) 0 (n + 1) (n + 1), σ') ∧ Row σ' (σ.n + 1) (nints (l ++ [x])) ∧ σ'.n = σ.n + 2 ∧ ∀ c, c ≠ b → c < σ.n → σ'.get c = σ.get c := by
  rw [nints_append, nints_one]
  exact append_row ht he hb (by rw [nints_length]; exact hn) hs

open Go.Wd
noncomputable def lenOk (x : Int) (y : Int) : Bool := match exec TT 200 (FI.of Tryd.f130 (TT.an 130)) [.code (Tryd.f130.body.getD .skip)] (paramsE 0 [.int .u64 x]) ⟨[], 0⟩ with
  | some (v, _) => v.eqv (.int .i64 y)
  | none => false
set_option maxRecDepth 100000 in
theorem len_tab : (lenOk 0 0 && ((List.range 33).all fun c => lenOk ((2 ^ c : Nat) : Int) ((c : Int) + 1))) = true := by kernel_rfl
theorem len_of {x y : Int} (h : lenOk x y = true) : FnV TT 130 [.int .u64 x] (.int .i64 y) := by
  refine FnV.mk fn130 (c := Tryd.f130.body.getD .skip) rfl md130 ?_ (fun _ => rfl) rfl
  unfold lenOk at h
  cases hx : exec TT 200 (FI.of Tryd.f130 (TT.an 130)) [.code (Tryd.f130.body.getD .skip)] (paramsE 0 [.int .u64 x]) ⟨[], 0⟩ with
  | none => rw [hx] at h; cases h
  | some r =>
    rw [hx] at h
    obtain ⟨v, σ1⟩ := r
    have := eqv_sound _ _ h
    exact ⟨σ1, by rw [exI_iff.2 ⟨200, hx⟩, this]⟩
theorem v130z : FnV TT 130 [.int .u64 0] (.int .i64 0) := by
  have h := len_tab
  rw [Bool.and_eq_true] at h
  exact len_of h.1
theorem v130 (c : Nat) (hc : c ≤ 32) : FnV TT 130 [.int .u64 (pw c : Nat)] (.int .i64 ((c : Int) + 1)) := by
  have h := len_tab
  rw [Bool.and_eq_true, List.all_eq_true] at h
  exact len_of (h.2 c (List.mem_range.2 (by omega)))
theorem v84z : FnV TT 84 [.int .i64 0] (.int .i64 (-1)) := by
  refine FnV.mk fn84 rfl md84 ⟨⟨[], 0⟩, ?_⟩ (fun _ => rfl) rfl
  have h : callI TT 130 [.int .u64 0] ⟨[], 0⟩ = some (.int .i64 0, ⟨[], 0⟩) := v130z _ _ rfl
  have h1 : wrapA .u64 (0 : Int) = 0 := by decide
  have h2 : wrapA .i64 (-1 : Int) = -1 := by decide
  rw [fi84]
  simp [xI_seq, xI_region, xI_ret, regA, regOps, runOps, opStep, wantedA, opA, evo, evos, calleeA, lk, nif_eq, putE, paramsE, valS, val2, keepE, restrict, finA, resA, binA, binInt, ofConst, ofConst1, loadA, TK.isAgg, asVar, unA, builtinA, lenOpA, lenA, ileb_cast, ileb_eq, ieqb_dec, indexAddrA, inB_dec, evPairs, storeA, AV.cellsOf, pairsOf, xI_nil, binBool, gcE, evOpt, tagZ, xI_block, xI_loopH, xI_condM, xI_exitM, xI_skip, xI_blk, exitA, ty2, ty3, ty141, h, h1, h2, convA]
theorem v84 (c : Nat) (hc : c ≤ 32) : FnV TT 84 [.int .i64 (pw c : Nat)] (.int .i64 c) := by
  refine FnV.mk fn84 rfl md84 ⟨⟨[], 0⟩, ?_⟩ (fun _ => rfl) rfl
  have h : callI TT 130 [.int .u64 (pw c : Nat)] ⟨[], 0⟩ = some (.int .i64 ((c : Int) + 1), ⟨[], 0⟩) := v130 c hc _ _ rfl
  have hp := pw_32 hc
  have h1 := n_wrapu (a := pw c) (by omega)
  have h2 : wrapA .i64 ((c : Int) + 1 - 1) = (c : Int) := by rw [wrapA_id (by omega) (by omega)]; omega
  have h3 : wrapA .i64 (c : Int) = (c : Int) := wrapA_id (by omega) (by omega)
  rw [fi84]
  simp [xI_seq, xI_region, xI_ret, regA, regOps, runOps, opStep, wantedA, opA, evo, evos, calleeA, lk, nif_eq, putE, paramsE, valS, val2, keepE, restrict, finA, resA, binA, binInt, ofConst, ofConst1, loadA, TK.isAgg, asVar, unA, builtinA, lenOpA, lenA, ileb_cast, ileb_eq, ieqb_dec, indexAddrA, inB_dec, evPairs, storeA, AV.cellsOf, pairsOf, xI_nil, binBool, gcE, evOpt, tagZ, xI_block, xI_loopH, xI_condM, xI_exitM, xI_skip, xI_blk, exitA, ty2, ty3, ty141, h, h1, h2, h3, convA]
/-- The least unknown, or -1. -/
def ldI (w r : Nat) : Int := if lead w r = w then -1 else (lead w r : Nat)
theorem lead_mod (w r : Nat) : lead w (r % 2 ^ w) = lead w r := by
  rcases Nat.lt_or_ge (lead w r) w with h | h
  · refine lead_eq h ?_ fun i hi => ?_
    · rw [Nat.testBit_mod_two_pow]; simp [h, lead_bit h]
    · rw [Nat.testBit_mod_two_pow]; simp [lead_low hi]
  · have h1 : lead w r = w := Nat.le_antisymm (lead_le w r) h
    rcases Nat.lt_or_ge (lead w (r % 2 ^ w)) w with h2 | h2
    · have := lead_bit h2
      rw [Nat.testBit_mod_two_pow, lead_low (w := w) (n := r) (by omega)] at this
      simp at this
    · rw [h1]; exact Nat.le_antisymm (lead_le _ _) h2
theorem mod_zero {w r : Nat} (h : lead w r = w) : r % 2 ^ w = 0 := by
  apply Nat.eq_of_testBit_eq
  intro i
  rw [Nat.testBit_mod_two_pow, Nat.zero_testBit]
  rcases Nat.lt_or_ge i w with hi | hi
  · rw [lead_low (w := w) (n := r) (by omega)]; simp
  · simp; omega
theorem and_mask (r w : Nat) : andN r (subN (pw w) 1) = modN r (pw w) := Nat.and_two_pow_sub_one_eq_mod r w
theorem c174 (w r : Nat) (hw : w ≤ 32) (hr : r < 2 ^ 62) (σ : St) (e : Nat) (x : Blk) (v : AV) (he : σ.get e = some x) (hx : x.cells = [.int .i64 w, v]) : callI TT 174 [.ptr e 0, .int .i64 r] σ = some (.int .i64 (ldI w r), σ) := by
  have hcw : cellsAt σ (.ptr e 0) 1 = some [.int .i64 w] := by simp [cellsAt, he, hx, getCells, takeN, dropN]
  have hp := pw_32 hw
  have hpp := pw_pos w
  have e1 := sh_1 (b := w) (by omega)
  have e2 : wrapA .i64 (((pw w : Nat) : Int) - 1) = ((subN (pw w) 1 : Nat) : Int) := by rw [pw_dec32 hw]; show _ = ((pw w - 1 : Nat) : Int); omega
  have e3 := n_and (a := r) (b := subN (pw w) 1) (lt_62 hr) (by show pw w - 1 ≤ _; omega)
  rw [and_mask] at e3
  obtain ⟨u, hu⟩ : ∃ u, u = modN r (pw w) := ⟨_, rfl⟩
  rw [← hu] at e3
  have hu1 : u = r % 2 ^ w := hu
  have hul : u < pw w := by rw [hu]; exact Nat.mod_lt _ hpp
  have e4 : wrapA .i64 (-(u : Int)) = -(u : Int) := wrapA_id (by omega) (by omega)
  rw [cI_0 fn174 rfl md174, fi174]
  by_cases h : lead w r = w
  · have h0 : u = 0 := by rw [hu1]; exact mod_zero h
    subst h0
    rw [show ldI w r = -1 by simp [ldI, h]]
    have hd : callI TT 84 [.int .i64 0] σ = some (.int .i64 (-1), σ) := v84z σ _ rfl
    have hz : bitsA .and .i64 0 0 = some (.int .i64 0) := rfl
    have hz2 : wrapA .i64 0 = 0 := by decide
    simp only [show ((0 : Nat) : Int) = 0 from rfl] at e3
    simp [xI_seq, xI_region, xI_ret, regA, regOps, runOps, opStep, wantedA, opA, evo, evos, calleeA, lk, nif_eq, putE, paramsE, valS, val2, keepE, restrict, finA, resA, binA, binInt, ofConst, ofConst1, loadA, TK.isAgg, asVar, unA, builtinA, lenOpA, lenA, ileb_cast, ileb_eq, ieqb_dec, indexAddrA, inB_dec, evPairs, storeA, AV.cellsOf, pairsOf, xI_nil, binBool, gcE, evOpt, tagZ, xI_block, xI_loopH, xI_condM, xI_exitM, xI_skip, xI_blk, exitA, ty2, ty3, ty180, fieldAddrA, ty2, ty3, ty24, ty180, hcw, e1, e2, e3, hd, hz, hz2]
  · have hl : lead w r < w := Nat.lt_of_le_of_ne (lead_le w r) h
    rw [show ldI w r = ((lead w r : Nat) : Int) by simp [ldI, h]]
    have hlu : lead w u = lead w r := by rw [hu1]; exact lead_mod w r
    have hpos : 0 < u := by
      rcases Nat.eq_zero_or_pos u with h0 | h0
      · have := lead_bit (w := w) (n := u) (by omega)
        rw [h0] at this; simp at this
      · exact h0
    have hb : bitsA .and .i64 (u : Int) (-(u : Int)) = some (.int .i64 ((pw (lead w r) : Nat) : Int)) := by
      obtain ⟨u', rfl⟩ : ∃ u', u = u' + 1 := ⟨u - 1, by omega⟩
      have h1 : smallNat .i64 ((u' + 1 : Nat) : Int) (-((u' + 1 : Nat) : Int)) = none := rfl
      unfold bitsA
      rw [h1]
      have h2 : (BitVec.ofInt IntKind.i64.bits ((u' + 1 : Nat) : Int) &&& BitVec.ofInt IntKind.i64.bits (-((u' + 1 : Nat) : Int))).toNat = pw (lead w r) := by
        have h3 := neg_bits (u := u' + 1) (by omega) (by omega)
        rw [and_neg_lead (w := w) (by omega) (by omega) (by omega), hlu] at h3
        exact h3
      simp only [h2]
      have hp2 := pw_32 (k := lead w r) (by omega)
      have h4 : IntKind.i64.wrap ((pw (lead w r) : Nat) : Int) = ((pw (lead w r) : Nat) : Int) := by rw [← wrapA_eq]; exact n_wrap (by omega)
      rw [h4]
    have hd : callI TT 84 [.int .i64 (pw (lead w r) : Nat)] σ = some (.int .i64 (lead w r : Nat), σ) := v84 (lead w r) (by omega) σ _ rfl
    simp [xI_seq, xI_region, xI_ret, regA, regOps, runOps, opStep, wantedA, opA, evo, evos, calleeA, lk, nif_eq, putE, paramsE, valS, val2, keepE, restrict, finA, resA, binA, binInt, ofConst, ofConst1, loadA, TK.isAgg, asVar, unA, builtinA, lenOpA, lenA, ileb_cast, ileb_eq, ieqb_dec, indexAddrA, inB_dec, evPairs, storeA, AV.cellsOf, pairsOf, xI_nil, binBool, gcE, evOpt, tagZ, xI_block, xI_loopH, xI_condM, xI_exitM, xI_skip, xI_blk, exitA, ty2, ty3, ty180, fieldAddrA, ty2, ty3, ty24, ty180, hcw, e1, e2, e3, e4, hb, hd]

/-- Equations in the heap. -/
def ES (σ : St) (e lo w : Nat) (rows : List Nat) (v : AV) : Prop := e < σ.n ∧ lo ≤ σ.n ∧ σ.get e = some ⟨[.int .i64 w, v], 2, false⟩ ∧ ((v = .nilS ∧ rows = []) ∨ ∃ b, lo ≤ b ∧ b ≠ e ∧ v = .sl b 0 rows.length rows.length ∧ Row σ b (nints rows))
theorem ES.w {σ : St} {e lo w : Nat} {rows : List Nat} {v : AV} (h : ES σ e lo w rows v) : cellsAt σ (.ptr e 0) 1 = some [.int .i64 w] := by
  obtain ⟨_, _, h, _⟩ := h
  simp [cellsAt, h, getCells, takeN, dropN]
theorem ES.v {σ : St} {e lo w : Nat} {rows : List Nat} {v : AV} (h : ES σ e lo w rows v) : cellsAt σ (.ptr e 1) 1 = some [v] := by
  obtain ⟨_, _, h, _⟩ := h
  simp [cellsAt, h, getCells, takeN, dropN]
theorem ES.len {σ : St} {e lo w : Nat} {rows : List Nat} {v : AV} (h : ES σ e lo w rows v) : lenA v = some rows.length := by
  obtain ⟨_, _, _, h⟩ := h
  rcases h with ⟨rfl, rfl⟩ | ⟨b, _, _, rfl, _⟩ <;> rfl
/-- Rows that are fit for reducing. -/
def Fine (w : Nat) (rows : List Nat) : Prop := ∀ r ∈ rows, r < 2 ^ (w + 1) ∧ lead w r < w
theorem bit_mod (r l : Nat) : (modN (shrN r l) 2 = 1) ↔ r.testBit l = true := by
  rw [Nat.testBit_eq_decide_div_mod_eq]; simp [modN, shrN]
theorem lt_w {w r : Nat} (hw : w ≤ 32) (h : r < 2 ^ (w + 1)) : r < 2 ^ 62 := Nat.lt_of_lt_of_le h (Nat.pow_le_pow_right (by decide) (by omega))
theorem xor_w {w a b : Nat} (ha : a < 2 ^ (w + 1)) (hb : b < 2 ^ (w + 1)) : xorN a b < 2 ^ (w + 1) := Nat.xor_lt_two_pow ha hb

noncomputable def b173 : Code := Tryd.f173.body.getD .skip
noncomputable def B173_0 : Code := (bodyC (bodyC (sndC (fstC (sndC b173)))))
noncomputable def K173_0 : List It := .lp B173_0 :: .blk 0 :: .code (sndC (sndC b173)) :: []
theorem xl173_0 {fi : FI} {env : Env} {σ : St} : exI TT fi K173_0 env σ = exI TT fi (.code B173_0 :: K173_0) env σ := by unfold K173_0; exact xI_lp
noncomputable def R173_0_0 : List It := .code (sndC (sndC b173)) :: []
theorem eK173_0_0 : exitA 0 K173_0 = some R173_0_0 := rfl
theorem l173 (w : Nat) (hw : w ≤ 32) (σ : St) (e lo : Nat) (rows : List Nat) (v : AV) (hE : ES σ e lo w rows v) (hf : Fine w rows) (len : Nat) (hlen : len = rows.length) (hl : len ≤ 100000) : ∀ (suf pre : List Nat) (row : Nat), rows = pre ++ suf → row < 2 ^ (w + 1) →
    exI TT (FI.of Tryd.f173 (TT.an 173)) K173_0 [(0, .ptr e 0), (1, .int .i64 row), (11, v), (12, .int .i64 len), (13, .int .i64 pre.length)] σ = some (.int .i64 (reduced w suf row : Nat), σ) := by
  intro suf
  induction suf with
  | nil =>
    intro pre row hp hr
    have hll : len = pre.length := by rw [hlen, hp]; simp
    subst hll
    rw [show reduced w [] row = row from rfl]
    rw [fi173]
    rw [xl173_0]
    simp only [B173_0, b173, Tryd.f173, Option.getD, fstC, sndC, bodyC, thnC, elsC]
    simp [xI_seq, xI_region, xI_ret, regA, regOps, runOps, opStep, wantedA, opA, evo, evos, calleeA, lk, nif_eq, putE, paramsE, valS, val2, keepE, restrict, finA, resA, binA, binInt, ofConst, ofConst1, loadA, TK.isAgg, asVar, unA, builtinA, lenOpA, lenA, ileb_cast, ileb_eq, ieqb_dec, indexAddrA, inB_dec, evPairs, storeA, AV.cellsOf, pairsOf, xI_nil, binBool, gcE, evOpt, tagZ, xI_block, xI_loopH, xI_condM, xI_exitM, xI_skip, xI_blk, exitA, ty2, ty3, ty24, ty180, eK173_0_0]
    simp only [R173_0_0, b173, Tryd.f173, Option.getD, fstC, sndC, bodyC, thnC, elsC]
    simp [xI_seq, xI_region, xI_ret, regA, regOps, runOps, opStep, wantedA, opA, evo, evos, calleeA, lk, nif_eq, putE, paramsE, valS, val2, keepE, restrict, finA, resA, binA, binInt, ofConst, ofConst1, loadA, TK.isAgg, asVar, unA, builtinA, lenOpA, lenA, ileb_cast, ileb_eq, ieqb_dec, indexAddrA, inB_dec, evPairs, storeA, AV.cellsOf, pairsOf, xI_nil, binBool, gcE, evOpt, tagZ, xI_block, xI_loopH, xI_condM, xI_exitM, xI_skip, xI_blk, exitA, ty2, ty3, ty24, ty180, eK173_0_0]
  | cons o suf ih =>
    intro pre row hp hr
    have hll : len = pre.length + (suf.length + 1) := by rw [hlen, hp]; simp
    have ho := hf o (by simp [hp])
    have hg : (nints rows)[pre.length]? = some (o : Int) := nints_get (by simp [hp])
    have hlt : ¬ len ≤ pre.length := by omega
    have hlt2 : pre.length < len := by omega
    have hlt3 : pre.length < rows.length := by omega
    have hw1 := wrapS (n := pre.length) (by omega)
    have hcw := hE.w
    obtain ⟨e1, e2, e3, e4⟩ := hE
    have hL := c174 w o hw (lt_w hw ho.1) σ e _ v e3 rfl
    rw [show ldI w o = ((lead w o : Nat) : Int) by unfold ldI; rw [if_neg (by omega)]] at hL
    obtain ⟨b, hb1, hb2, rfl, hrow⟩ : ∃ b, lo ≤ b ∧ b ≠ e ∧ v = .sl b 0 rows.length rows.length ∧ Row σ b (nints rows) := by
      rcases e4 with ⟨_, h⟩ | h
      · rw [h] at hp; simp at hp
      · exact h
    have hrd := hrow.read hg
    have s1 := sh_r (a := row) (b := lead w o) (by omega)
    have hsl : shrN row (lead w o) ≤ row := Nat.div_le_self _ _
    have hr62 := lt_w hw hr
    have s2 := n_and1 (a := shrN row (lead w o)) (lt_62 (by omega))
    have s3 := n_xor (a := row) (b := o) (lt_62 hr62) (lt_62 (lt_w hw ho.1))
    have s4 : ¬ ((lead w o : Nat) : Int) < 0 := by omega
    by_cases hb : row.testBit (lead w o) = true
    · have hm := (bit_mod row (lead w o)).2 hb
      have hm' : ((modN (shrN row (lead w o)) 2 : Nat) : Int) = 1 := by omega
      have h1 := ih (pre ++ [o]) (xorN row o) (by simp [hp]) (xor_w hr ho.1)
      rw [show reduced w (o :: suf) row = reduced w suf (xorN row o) by simp only [reduced, List.foldl_cons]; rw [if_pos hb]; rfl]
      simp only [List.length_append, List.length_singleton] at h1
      rw [fi173] at h1 ⊢
      rw [xl173_0]
      simp only [B173_0, b173, Tryd.f173, Option.getD, fstC, sndC, bodyC, thnC, elsC]
      simp [xI_seq, xI_region, xI_ret, regA, regOps, runOps, opStep, wantedA, opA, evo, evos, calleeA, lk, nif_eq, putE, paramsE, valS, val2, keepE, restrict, finA, resA, binA, binInt, ofConst, ofConst1, loadA, TK.isAgg, asVar, unA, builtinA, lenOpA, lenA, ileb_cast, ileb_eq, ieqb_dec, indexAddrA, inB_dec, evPairs, storeA, AV.cellsOf, pairsOf, xI_nil, binBool, gcE, evOpt, tagZ, xI_block, xI_loopH, xI_condM, xI_exitM, xI_skip, xI_blk, exitA, ty2, ty3, ty24, ty180, eK173_0_0, fieldAddrA, ty2, ty3, ty24, ty180, hlt, hlt2, hlt3, hw1, hcw, hL, hrd, s1, s2, s3, s4, hm, hm']
      simpa using h1
    · have hm : ¬ modN (shrN row (lead w o)) 2 = 1 := fun h => hb ((bit_mod row (lead w o)).1 h)
      have hm' : ¬ ((modN (shrN row (lead w o)) 2 : Nat) : Int) = 1 := by omega
      have h1 := ih (pre ++ [o]) row (by simp [hp]) hr
      rw [show reduced w (o :: suf) row = reduced w suf row by simp only [reduced, List.foldl_cons]; rw [if_neg hb]]
      simp only [List.length_append, List.length_singleton] at h1
      rw [fi173] at h1 ⊢
      rw [xl173_0]
      simp only [B173_0, b173, Tryd.f173, Option.getD, fstC, sndC, bodyC, thnC, elsC]
      simp [xI_seq, xI_region, xI_ret, regA, regOps, runOps, opStep, wantedA, opA, evo, evos, calleeA, lk, nif_eq, putE, paramsE, valS, val2, keepE, restrict, finA, resA, binA, binInt, ofConst, ofConst1, loadA, TK.isAgg, asVar, unA, builtinA, lenOpA, lenA, ileb_cast, ileb_eq, ieqb_dec, indexAddrA, inB_dec, evPairs, storeA, AV.cellsOf, pairsOf, xI_nil, binBool, gcE, evOpt, tagZ, xI_block, xI_loopH, xI_condM, xI_exitM, xI_skip, xI_blk, exitA, ty2, ty3, ty24, ty180, eK173_0_0, fieldAddrA, ty2, ty3, ty24, ty180, hlt, hlt2, hlt3, hw1, hcw, hL, hrd, s1, s2, s3, s4, hm, hm']
      simpa using h1
theorem c173 (w : Nat) (hw : w ≤ 32) (σ : St) (e lo : Nat) (rows : List Nat) (v : AV) (hE : ES σ e lo w rows v) (hf : Fine w rows) (hl : rows.length ≤ 100000) (row : Nat) (hr : row < 2 ^ (w + 1)) :
    callI TT 173 [.ptr e 0, .int .i64 row] σ = some (.int .i64 (reduced w rows row : Nat), σ) := by
  have h := l173 w hw σ e lo rows v hE hf rows.length rfl hl rows [] row rfl hr
  have hv := hE.v
  have hn := hE.len
  simp only [List.length_nil, Int.natCast_zero, show ((0 : Nat) : Int) = 0 from rfl] at h
  rw [cI_0 fn173 rfl md173, ← h, fi173]
  obtain ⟨_, _, _, hE4⟩ := hE
  rcases hE4 with ⟨rfl, rfl⟩ | ⟨b, hb1, hb2, rfl, hrow⟩
  · simp [xI_seq, xI_region, xI_ret, regA, regOps, runOps, opStep, wantedA, opA, evo, evos, calleeA, lk, nif_eq, putE, paramsE, valS, val2, keepE, restrict, finA, resA, binA, binInt, ofConst, ofConst1, loadA, TK.isAgg, asVar, unA, builtinA, lenOpA, lenA, ileb_cast, ileb_eq, ieqb_dec, indexAddrA, inB_dec, evPairs, storeA, AV.cellsOf, pairsOf, xI_nil, binBool, gcE, evOpt, tagZ, xI_block, xI_loopH, xI_condM, xI_exitM, xI_skip, xI_blk, exitA, ty2, ty3, ty24, ty180, eK173_0_0, fieldAddrA, ty2, ty3, ty24, ty180, hv]
    rfl
  · simp [xI_seq, xI_region, xI_ret, regA, regOps, runOps, opStep, wantedA, opA, evo, evos, calleeA, lk, nif_eq, putE, paramsE, valS, val2, keepE, restrict, finA, resA, binA, binInt, ofConst, ofConst1, loadA, TK.isAgg, asVar, unA, builtinA, lenOpA, lenA, ileb_cast, ileb_eq, ieqb_dec, indexAddrA, inB_dec, evPairs, storeA, AV.cellsOf, pairsOf, xI_nil, binBool, gcE, evOpt, tagZ, xI_block, xI_loopH, xI_condM, xI_exitM, xI_skip, xI_blk, exitA, ty2, ty3, ty24, ty180, eK173_0_0, fieldAddrA, ty2, ty3, ty24, ty180, hv]
    rfl
theorem reduced_lt (w : Nat) : ∀ (rows : List Nat) (row : Nat), Fine w rows → row < 2 ^ (w + 1) → reduced w rows row < 2 ^ (w + 1)
  | [], _, _, h => h
  | o :: rows, row, hf, h => by
    simp only [reduced, List.foldl_cons]
    exact reduced_lt w rows _ (fun r hr => hf r (by simp [hr])) (by split; exact xor_w h (hf o (by simp)).1; exact h)

open Go.Wd
theorem append_nil1 {T : Tab} {σ : St} {x : Int} {st e : TypeId} (ht : T.ty st = some ⟨.slice e, 1, 24, [.nilS]⟩) (he : T.ty e = some ⟨.int .i64, 1, 8, [.int .i64 0]⟩) :
    appendA T (σ.push ⟨[.int .i64 x], 1, false⟩) st st .nilS (.sl σ.n 0 1 1) = some (.sl (σ.n + 1) 0 1 1, (σ.push ⟨[.int .i64 x], 1, false⟩).push ⟨[.int .i64 x], 1, true⟩) := by
  unfold appendA
  have h1 : firstA (σ.push ⟨[.int .i64 x], 1, false⟩) 1 1 (.sl σ.n 0 1 1) = some [.int .i64 x] := by
    simp [firstA, get_push_same, getCells, dropN, takeN]
  simp only [ht, he, lenA, h1, allOne, AV.one]
  simp [n_push, newE]
theorem ES.app {T : Tab} {σ : St} {e lo w : Nat} {rows : List Nat} {x : Nat} {v : AV} {st el : TypeId} (ht : T.ty st = some ⟨.slice el, 1, 24, [.nilS]⟩) (he : T.ty el = some ⟨.int .i64, 1, 8, [.int .i64 0]⟩) (h : ES σ e lo w rows v) (hs : rows.length < 1000000) :
    ∃ b' σ1 σ', appendA T (σ.push ⟨[.int .i64 (x : Int)], 1, false⟩) st st v (.sl σ.n 0 1 1) = some (.sl b' 0 (rows.length + 1) (rows.length + 1), σ1) ∧ storeCellsA σ1 e 1 [.sl b' 0 (rows.length + 1) (rows.length + 1)] = some σ' ∧ ES σ' e lo w (rows ++ [x]) (.sl b' 0 (rows.length + 1) (rows.length + 1)) ∧ σ.n ≤ σ'.n ∧ ∀ c, c < lo → c ≠ e → σ'.get c = σ.get c := by
  obtain ⟨h1, h2, h3, h4⟩ := h
  have fin : ∀ σ1 : St, σ1.n = σ.n + 2 → σ1.get e = some ⟨[.int .i64 w, v], 2, false⟩ → Row σ1 (σ.n + 1) (nints (rows ++ [x])) → (∀ c, c < lo → c ≠ e → σ1.get c = σ.get c) →
      ∃ σ', storeCellsA σ1 e 1 [.sl (σ.n + 1) 0 (rows.length + 1) (rows.length + 1)] = some σ' ∧ ES σ' e lo w (rows ++ [x]) (.sl (σ.n + 1) 0 (rows.length + 1) (rows.length + 1)) ∧ σ.n ≤ σ'.n ∧ ∀ c, c < lo → c ≠ e → σ'.get c = σ.get c := by
    intro σ1 hn hq hr hc
    have hr' : Row (σ1.set e ⟨[.int .i64 w, .sl (σ.n + 1) 0 (rows.length + 1) (rows.length + 1)], 2, false⟩) (σ.n + 1) (nints (rows ++ [x])) := hr.keep (Nat.le_refl _) (get_set_ne (by omega))
    refine ⟨σ1.set e ⟨[.int .i64 w, .sl (σ.n + 1) 0 (rows.length + 1) (rows.length + 1)], 2, false⟩, ?_, ⟨?_, ?_, get_set_eq hq, .inr ⟨σ.n + 1, by omega, by omega, by simp, hr'⟩⟩, ?_, ?_⟩
    · simp [storeCellsA, hq, allOne, AV.one, putN, overN]
    · rw [n_set, hn]; omega
    · rw [n_set, hn]; omega
    · rw [n_set, hn]; omega
    · intro c hc2 hce
      rw [get_set_ne (fun h => hce h.symm)]; exact hc c hc2 hce
  rcases h4 with ⟨rfl, rfl⟩ | ⟨b, hb2, hbq, rfl, hr⟩
  · obtain ⟨σ', g1, g2, g3, g4⟩ := fin ((σ.push ⟨[.int .i64 (x : Int)], 1, false⟩).push ⟨[.int .i64 (x : Int)], 1, true⟩) rfl (by rw [get_push_lt (by rw [n_push]; omega), get_push_lt h1]; exact h3) ⟨true, get_push_same, Nat.lt_succ_self _⟩ (fun c hc _ => by rw [get_push_lt (by rw [n_push]; omega), get_push_lt (by omega)])
    exact ⟨σ.n + 1, _, σ', append_nil1 ht he, g1, g2, g3, g4⟩
  · have hrl := hr.lt
    obtain ⟨σ1, ha, hr1, hn, hu⟩ := nints_append_row (x := x) ht he hr (n := rows.length) rfl (by omega)
    obtain ⟨σ', g1, g2, g3, g4⟩ := fin σ1 hn ((hu e (fun h => hbq h.symm) h1).trans h3) hr1 (fun c hc _ => hu c (by omega) (by omega))
    exact ⟨σ.n + 1, σ1, σ', ha, g1, g2, g3, g4⟩
/-- What adding a row makes of another. -/
def clr (w r o : Nat) : Nat := if o.testBit (lead w r) = true then xorN o r else o
/-- An equation: a mask with a right side. -/
def eqn (w mask right : Nat) : Nat := orN mask (shlN right w)
theorem eqn_lt {w mask right : Nat} (hm : mask < 2 ^ w) (hr : right ≤ 1) : eqn w mask right < 2 ^ (w + 1) := by
  have h1 : right * 2 ^ w ≤ 1 * 2 ^ w := Nat.mul_le_mul_right _ hr
  have h2 : 2 ^ (w + 1) = 2 ^ w * 2 := Nat.pow_succ 2 w
  have h3 : 0 < 2 ^ w := Nat.pow_pos (by decide)
  exact Nat.or_lt_two_pow (by omega) (show right * 2 ^ w < _ by omega)
theorem add_eq (w : Nat) (rows : List Nat) (row : Nat) : add w rows row = if lead w (reduced w rows row) = w then (if reduced w rows row = 0 then some rows else none) else some (rows.map (clr w (reduced w rows row)) ++ [reduced w rows row]) := rfl

noncomputable def b156 : Code := Tryd.f156.body.getD .skip
noncomputable def B156_0 : Code := (bodyC (bodyC (sndC (fstC (sndC (sndC (sndC b156)))))))
noncomputable def K156_0 : List It := .lp B156_0 :: .blk 0 :: .code (sndC (sndC (sndC (sndC b156)))) :: []
theorem xl156_0 {fi : FI} {env : Env} {σ : St} : exI TT fi K156_0 env σ = exI TT fi (.code B156_0 :: K156_0) env σ := by unfold K156_0; exact xI_lp
noncomputable def R156_0_0 : List It := .code (sndC (sndC (sndC (sndC b156)))) :: []
theorem eK156_0_0 : exitA 0 K156_0 = some R156_0_0 := rfl
theorem l156 (w : Nat) (hw : w ≤ 32) (e lo : Nat) (rows : List Nat) (v : AV) (hf : Fine w rows) (r : Nat) (hr : r < 2 ^ (w + 1)) (hlr : lead w r < w) (len : Nat) (hlen : len = rows.length) (hl : len ≤ 100000) : ∀ (suf pre : List Nat) (σ : St), rows = pre ++ suf → ES σ e lo w (pre.map (clr w r) ++ suf) v →
    ∃ σ' v', exI TT (FI.of Tryd.f156 (TT.an 156)) K156_0 [(0, .ptr e 0), (7, .int .i64 r), (29, v), (30, .int .i64 len), (31, .int .i64 pre.length)] σ = some (.bool true, σ') ∧ ES σ' e lo w (rows.map (clr w r) ++ [r]) v' ∧ σ.n ≤ σ'.n ∧ ∀ c, c < lo → c ≠ e → σ'.get c = σ.get c := by
  intro suf
  induction suf with
  | nil =>
    intro pre σ hp hE
    have hll : len = pre.length := by rw [hlen, hp]; simp
    have hp : rows = pre := by simpa using hp
    subst hp
    subst hll
    simp only [List.append_nil] at hE
    obtain ⟨b', σ1, σ', a1, a2, a3, a4, a5⟩ := ES.app (x := r) ty24 ty2 hE (by simp; omega)
    have hv := hE.v
    simp only [List.length_map] at a1 a2 a3
    refine ⟨σ', _, ?_, a3, a4, a5⟩
    rw [fi156]
    rw [xl156_0]
    simp only [B156_0, b156, Tryd.f156, Option.getD, fstC, sndC, bodyC, thnC, elsC]
    simp [xI_seq, xI_region, xI_ret, regA, regOps, runOps, opStep, wantedA, opA, evo, evos, calleeA, lk, nif_eq, putE, paramsE, valS, val2, keepE, restrict, finA, resA, binA, binInt, ofConst, ofConst1, loadA, TK.isAgg, asVar, unA, builtinA, lenOpA, lenA, ileb_cast, ileb_eq, ieqb_dec, indexAddrA, inB_dec, evPairs, storeA, AV.cellsOf, pairsOf, xI_nil, binBool, gcE, evOpt, tagZ, xI_block, xI_loopH, xI_condM, xI_exitM, xI_skip, xI_blk, exitA, ty2, ty3, ty24, ty180, eK156_0_0]
    simp only [R156_0_0, b156, Tryd.f156, Option.getD, fstC, sndC, bodyC, thnC, elsC]
    simp [xI_seq, xI_region, xI_ret, regA, regOps, runOps, opStep, wantedA, opA, evo, evos, calleeA, lk, nif_eq, putE, paramsE, valS, val2, keepE, restrict, finA, resA, binA, binInt, ofConst, ofConst1, loadA, TK.isAgg, asVar, unA, builtinA, lenOpA, lenA, ileb_cast, ileb_eq, ieqb_dec, indexAddrA, inB_dec, evPairs, storeA, AV.cellsOf, pairsOf, xI_nil, binBool, gcE, evOpt, tagZ, xI_block, xI_loopH, xI_condM, xI_exitM, xI_skip, xI_blk, exitA, ty2, ty3, ty24, ty180, eK156_0_0, fieldAddrA, ty2, ty3, ty24, ty180, allOne, AV.one, hv, bs1, a1, a2]
  | cons o suf ih =>
    intro pre σ hp hE
    have hll : len = pre.length + (suf.length + 1) := by rw [hlen, hp]; simp
    have ho := hf o (by simp [hp])
    have hlt : ¬ len ≤ pre.length := by omega
    have hlt2 : pre.length < len := by omega
    have hlt3 : pre.length < pre.length + (suf.length + 1) := by omega
    have hw1 := wrapS (n := pre.length) (by omega)
    have hv := hE.v
    have hE0 := hE
    obtain ⟨e1, e2, e3, e4⟩ := hE
    have hL := c174 w r hw (lt_w hw hr) σ e _ v e3 rfl
    rw [show ldI w r = ((lead w r : Nat) : Int) by unfold ldI; rw [if_neg (by omega)]] at hL
    obtain ⟨b, hb1, hb2, rfl, hrow⟩ : ∃ b, lo ≤ b ∧ b ≠ e ∧ v = .sl b 0 (pre.map (clr w r) ++ o :: suf).length (pre.map (clr w r) ++ o :: suf).length ∧ Row σ b (nints (pre.map (clr w r) ++ o :: suf)) := by
      rcases e4 with ⟨_, h⟩ | h
      · simp at h
      · exact h
    have hg : (nints (pre.map (clr w r) ++ o :: suf))[pre.length]? = some (o : Int) := nints_get (by rw [List.getElem?_append_right (by simp)]; simp)
    have hrd := hrow.read hg
    have s1 := sh_r (a := o) (b := lead w r) (by omega)
    have hsl : shrN o (lead w r) ≤ o := Nat.div_le_self _ _
    have ho62 := lt_w hw ho.1
    have s2 := n_and1 (a := shrN o (lead w r)) (lt_62 (by omega))
    have s3 := n_xor (a := o) (b := r) (lt_62 ho62) (lt_62 (lt_w hw hr))
    have s4 : ¬ ((lead w r : Nat) : Int) < 0 := by omega
    have hlenv : (pre.map (clr w r) ++ o :: suf).length = len := by rw [hll]; simp
    by_cases hb : o.testBit (lead w r) = true
    · have hm := (bit_mod o (lead w r)).2 hb
      have hm' : ((modN (shrN o (lead w r)) 2 : Nat) : Int) = 1 := by omega
      obtain ⟨σ1, hst, hr1, hn1, hu1⟩ := store_row (i := pre.length) (x := (xorN o r : Nat)) hrow (by rw [nints_length]; simp)
      rw [nints_set, show (pre.map (clr w r) ++ o :: suf).set pre.length (xorN o r) = (pre ++ [o]).map (clr w r) ++ suf by
        have := List.set_append_right (s := pre.map (clr w r)) (t := o :: suf) pre.length (xorN o r) (by simp)
        rw [this]; simp [clr, hb]] at hr1
      have hE1 : ES σ1 e lo w ((pre ++ [o]).map (clr w r) ++ suf) (.sl b 0 (pre.map (clr w r) ++ o :: suf).length (pre.map (clr w r) ++ o :: suf).length) := by
        refine ⟨by omega, by omega, by rw [hu1 e (fun h => hb2 h.symm)]; exact e3, .inr ⟨b, hb1, hb2, ?_, hr1⟩⟩
        simp
      obtain ⟨σ', v', h1, h2, h3, h4⟩ := ih (pre ++ [o]) σ1 (by simp [hp]) hE1
      refine ⟨σ', v', ?_, h2, by omega, fun c hc hce => (h4 c hc hce).trans (hu1 c (by omega))⟩
      simp only [hlenv, show (pre ++ [o]).length = pre.length + 1 by simp] at h1 hv ⊢
      rw [fi156] at h1 ⊢
      rw [xl156_0]
      simp only [B156_0, b156, Tryd.f156, Option.getD, fstC, sndC, bodyC, thnC, elsC]
      simp [xI_seq, xI_region, xI_ret, regA, regOps, runOps, opStep, wantedA, opA, evo, evos, calleeA, lk, nif_eq, putE, paramsE, valS, val2, keepE, restrict, finA, resA, binA, binInt, ofConst, ofConst1, loadA, TK.isAgg, asVar, unA, builtinA, lenOpA, lenA, ileb_cast, ileb_eq, ieqb_dec, indexAddrA, inB_dec, evPairs, storeA, AV.cellsOf, pairsOf, xI_nil, binBool, gcE, evOpt, tagZ, xI_block, xI_loopH, xI_condM, xI_exitM, xI_skip, xI_blk, exitA, ty2, ty3, ty24, ty180, eK156_0_0, fieldAddrA, ty2, ty3, ty24, ty180, allOne, AV.one, hlt, hlt2, hlt3, hw1, hv, hL, hrd, hst, s1, s2, s3, s4, hm, hm']
      simpa using h1
    · have hm : ¬ modN (shrN o (lead w r)) 2 = 1 := fun h => hb ((bit_mod o (lead w r)).1 h)
      have hm' : ¬ ((modN (shrN o (lead w r)) 2 : Nat) : Int) = 1 := by omega
      have hE1 : ES σ e lo w ((pre ++ [o]).map (clr w r) ++ suf) (.sl b 0 (pre.map (clr w r) ++ o :: suf).length (pre.map (clr w r) ++ o :: suf).length) := by
        have : (pre ++ [o]).map (clr w r) ++ suf = pre.map (clr w r) ++ o :: suf := by simp [clr, hb]
        rw [this]; exact hE0
      obtain ⟨σ', v', h1, h2, h3, h4⟩ := ih (pre ++ [o]) σ (by simp [hp]) hE1
      refine ⟨σ', v', ?_, h2, h3, h4⟩
      simp only [hlenv, show (pre ++ [o]).length = pre.length + 1 by simp] at h1 hv ⊢
      rw [fi156] at h1 ⊢
      rw [xl156_0]
      simp only [B156_0, b156, Tryd.f156, Option.getD, fstC, sndC, bodyC, thnC, elsC]
      simp [xI_seq, xI_region, xI_ret, regA, regOps, runOps, opStep, wantedA, opA, evo, evos, calleeA, lk, nif_eq, putE, paramsE, valS, val2, keepE, restrict, finA, resA, binA, binInt, ofConst, ofConst1, loadA, TK.isAgg, asVar, unA, builtinA, lenOpA, lenA, ileb_cast, ileb_eq, ieqb_dec, indexAddrA, inB_dec, evPairs, storeA, AV.cellsOf, pairsOf, xI_nil, binBool, gcE, evOpt, tagZ, xI_block, xI_loopH, xI_condM, xI_exitM, xI_skip, xI_blk, exitA, ty2, ty3, ty24, ty180, eK156_0_0, fieldAddrA, ty2, ty3, ty24, ty180, hlt, hlt2, hlt3, hw1, hv, hL, hrd, s1, s2, s3, s4, hm, hm']
      simpa using h1

theorem c156y (w : Nat) (hw : w ≤ 32) (e lo : Nat) (rows rows' : List Nat) (v : AV) (σ : St) (hE : ES σ e lo w rows v) (hf : Fine w rows) (hl : rows.length ≤ 100000) (mask right : Nat) (hm : mask < 2 ^ w) (hr : right ≤ 1) (ha : add w rows (eqn w mask right) = some rows') :
    ∃ σ' v', callI TT 156 [.ptr e 0, .int .i64 mask, .int .i64 right] σ = some (.bool true, σ') ∧ ES σ' e lo w rows' v' ∧ σ.n ≤ σ'.n ∧ ∀ c, c < lo → c ≠ e → σ'.get c = σ.get c := by
  have hq := eqn_lt hm hr
  have hred := c173 w hw σ e lo rows v hE hf hl (eqn w mask right) hq
  have hrl := reduced_lt w rows (eqn w mask right) hf hq
  have hv := hE.v
  have hcw := hE.w
  have hn := hE.len
  have hw16 := pw_32 hw
  have hm62 : mask < 4294967296 := by show mask < 4294967296; have : 2 ^ w ≤ 4294967296 := hw16; omega
  have hsl : right * 2 ^ w ≤ 1 * 4294967296 := Nat.mul_le_mul hr hw16
  have s1 := sh_l (a := right) (b := w) (by omega) (by omega)
  have s2 := n_or (a := mask) (b := shlN right w) (by omega) (by show right * 2 ^ w ≤ _; omega)
  have s3 : orN mask (shlN right w) = eqn w mask right := rfl
  rw [s3] at s2
  have hL := c174 w (reduced w rows (eqn w mask right)) hw (lt_w hw hrl) σ e _ v hE.2.2.1 rfl
  rw [add_eq] at ha
  obtain ⟨R, hR⟩ : ∃ R, R = reduced w rows (eqn w mask right) := ⟨_, rfl⟩
  rw [← hR] at hred hL hrl ha
  rw [cI_0 fn156 rfl md156]
  have hw0 : ¬ ((w : Int) < 0) := by omega
  by_cases h1 : lead w R = w
  · rw [if_pos h1] at ha
    by_cases h2 : R = 0
    · rw [if_pos h2] at ha
      cases ha
      refine ⟨σ, v, ?_, hE, Nat.le_refl _, fun _ _ _ => rfl⟩
      rw [show ldI w R = -1 by simp [ldI, h1]] at hL
      subst h2
      simp only [show ((0 : Nat) : Int) = 0 from rfl] at hred hL
      rw [fi156]
      simp [xI_seq, xI_region, xI_ret, regA, regOps, runOps, opStep, wantedA, opA, evo, evos, calleeA, lk, nif_eq, putE, paramsE, valS, val2, keepE, restrict, finA, resA, binA, binInt, ofConst, ofConst1, loadA, TK.isAgg, asVar, unA, builtinA, lenOpA, lenA, ileb_cast, ileb_eq, ieqb_dec, indexAddrA, inB_dec, evPairs, storeA, AV.cellsOf, pairsOf, xI_nil, binBool, gcE, evOpt, tagZ, xI_block, xI_loopH, xI_condM, xI_exitM, xI_skip, xI_blk, exitA, ty2, ty3, ty24, ty180, eK156_0_0, fieldAddrA, ty2, ty3, ty24, ty180, hcw, hv, s1, s2, hred, hL, hw0]
    · rw [if_neg h2] at ha; cases ha
  · rw [if_neg h1] at ha
    cases ha
    have hlw : lead w R < w := Nat.lt_of_le_of_ne (lead_le w R) h1
    rw [show ldI w R = ((lead w R : Nat) : Int) by simp [ldI, h1]] at hL
    have hl0 : ¬ (((lead w R : Nat) : Int) < 0) := by omega
    obtain ⟨σ', v', g1, g2, g3, g4⟩ := l156 w hw e lo rows v hf R hrl hlw rows.length rfl hl rows [] σ rfl (by simpa using hE)
    refine ⟨σ', v', ?_, g2, g3, g4⟩
    simp only [List.length_nil, Int.natCast_zero, show ((0 : Nat) : Int) = 0 from rfl] at g1
    rw [← g1, fi156]
    obtain ⟨_, _, _, hE4⟩ := hE
    rcases hE4 with ⟨rfl, rfl⟩ | ⟨b, hb1, hb2, rfl, hrow⟩
    · simp [xI_seq, xI_region, xI_ret, regA, regOps, runOps, opStep, wantedA, opA, evo, evos, calleeA, lk, nif_eq, putE, paramsE, valS, val2, keepE, restrict, finA, resA, binA, binInt, ofConst, ofConst1, loadA, TK.isAgg, asVar, unA, builtinA, lenOpA, lenA, ileb_cast, ileb_eq, ieqb_dec, indexAddrA, inB_dec, evPairs, storeA, AV.cellsOf, pairsOf, xI_nil, binBool, gcE, evOpt, tagZ, xI_block, xI_loopH, xI_condM, xI_exitM, xI_skip, xI_blk, exitA, ty2, ty3, ty24, ty180, eK156_0_0, fieldAddrA, ty2, ty3, ty24, ty180, hcw, hv, s1, s2, hred, hL, hw0, hl0]
      rfl
    · simp [xI_seq, xI_region, xI_ret, regA, regOps, runOps, opStep, wantedA, opA, evo, evos, calleeA, lk, nif_eq, putE, paramsE, valS, val2, keepE, restrict, finA, resA, binA, binInt, ofConst, ofConst1, loadA, TK.isAgg, asVar, unA, builtinA, lenOpA, lenA, ileb_cast, ileb_eq, ieqb_dec, indexAddrA, inB_dec, evPairs, storeA, AV.cellsOf, pairsOf, xI_nil, binBool, gcE, evOpt, tagZ, xI_block, xI_loopH, xI_condM, xI_exitM, xI_skip, xI_blk, exitA, ty2, ty3, ty24, ty180, eK156_0_0, fieldAddrA, ty2, ty3, ty24, ty180, hcw, hv, s1, s2, hred, hL, hw0, hl0]
      rfl
theorem c156n (w : Nat) (hw : w ≤ 32) (e lo : Nat) (rows : List Nat) (v : AV) (σ : St) (hE : ES σ e lo w rows v) (hf : Fine w rows) (hl : rows.length ≤ 100000) (mask right : Nat) (hm : mask < 2 ^ w) (hr : right ≤ 1) (ha : add w rows (eqn w mask right) = none) :
    callI TT 156 [.ptr e 0, .int .i64 mask, .int .i64 right] σ = some (.bool false, σ) := by
  have hq := eqn_lt hm hr
  have hred := c173 w hw σ e lo rows v hE hf hl (eqn w mask right) hq
  have hrl := reduced_lt w rows (eqn w mask right) hf hq
  have hv := hE.v
  have hcw := hE.w
  have hw16 := pw_32 hw
  have hm62 : mask < 4294967296 := by show mask < 4294967296; have : 2 ^ w ≤ 4294967296 := hw16; omega
  have hsl : right * 2 ^ w ≤ 1 * 4294967296 := Nat.mul_le_mul hr hw16
  have s1 := sh_l (a := right) (b := w) (by omega) (by omega)
  have s2 := n_or (a := mask) (b := shlN right w) (by omega) (by show right * 2 ^ w ≤ _; omega)
  have s3 : orN mask (shlN right w) = eqn w mask right := rfl
  rw [s3] at s2
  have hL := c174 w (reduced w rows (eqn w mask right)) hw (lt_w hw hrl) σ e _ v hE.2.2.1 rfl
  rw [add_eq] at ha
  obtain ⟨R, hR⟩ : ∃ R, R = reduced w rows (eqn w mask right) := ⟨_, rfl⟩
  rw [← hR] at hred hL hrl ha
  rw [cI_0 fn156 rfl md156]
  have hw0 : ¬ ((w : Int) < 0) := by omega
  by_cases h1 : lead w R = w
  · rw [if_pos h1] at ha
    by_cases h2 : R = 0
    · rw [if_pos h2] at ha; cases ha
    · rw [show ldI w R = -1 by simp [ldI, h1]] at hL
      have h2' : ¬ ((R : Int) = 0) := by omega
      rw [fi156]
      simp [xI_seq, xI_region, xI_ret, regA, regOps, runOps, opStep, wantedA, opA, evo, evos, calleeA, lk, nif_eq, putE, paramsE, valS, val2, keepE, restrict, finA, resA, binA, binInt, ofConst, ofConst1, loadA, TK.isAgg, asVar, unA, builtinA, lenOpA, lenA, ileb_cast, ileb_eq, ieqb_dec, indexAddrA, inB_dec, evPairs, storeA, AV.cellsOf, pairsOf, xI_nil, binBool, gcE, evOpt, tagZ, xI_block, xI_loopH, xI_condM, xI_exitM, xI_skip, xI_blk, exitA, ty2, ty3, ty24, ty180, eK156_0_0, fieldAddrA, ty2, ty3, ty24, ty180, hcw, hv, s1, s2, hred, hL, hw0, h2, h2']
  · rw [if_neg h1] at ha; cases ha

noncomputable def b157 : Code := Tryd.f157.body.getD .skip
noncomputable def B157_0 : Code := (bodyC (bodyC (sndC (fstC (sndC (sndC b157))))))
noncomputable def K157_0 : List It := .lp B157_0 :: .blk 0 :: .code (sndC (sndC (sndC b157))) :: []
theorem xl157_0 {fi : FI} {env : Env} {σ : St} : exI TT fi K157_0 env σ = exI TT fi (.code B157_0 :: K157_0) env σ := by unfold K157_0; exact xI_lp
noncomputable def R157_0_0 : List It := .code (sndC (sndC (sndC b157))) :: []
theorem eK157_0_0 : exitA 0 K157_0 = some R157_0_0 := rfl
theorem least_lt (w : Nat) : ∀ (rows : List Nat) (out : Nat), Fine w rows → out < 2 ^ w → rows.foldl (fun out r => out ||| r / 2 ^ w * 2 ^ lead w r) out < 2 ^ w
  | [], _, _, h => h
  | r :: rows, out, hf, h => by
    rw [List.foldl_cons]
    have h1 := hf r (by simp)
    have h2 : r / 2 ^ w ≤ 1 := by
      have : r / 2 ^ w < 2 := by rw [Nat.div_lt_iff_lt_mul (Nat.pow_pos (by decide))]; have := h1.1; rw [Nat.pow_succ] at this; omega
      omega
    have h3 : r / 2 ^ w * 2 ^ lead w r ≤ 1 * 2 ^ lead w r := Nat.mul_le_mul_right _ h2
    have h4 : 2 ^ lead w r < 2 ^ w := Nat.pow_lt_pow_right (by decide) h1.2
    exact least_lt w rows _ (fun r hr => hf r (by simp [hr])) (Nat.or_lt_two_pow h (by omega))
set_option maxHeartbeats 1000000 in
theorem l157 (w : Nat) (hw : w ≤ 32) (σ : St) (e lo : Nat) (rows : List Nat) (v : AV) (hE : ES σ e lo w rows v) (hf : Fine w rows) (len : Nat) (hlen : len = rows.length) (hl : len ≤ 100000) : ∀ (suf pre : List Nat) (out : Nat), rows = pre ++ suf → out < 2 ^ w →
    exI TT (FI.of Tryd.f157 (TT.an 157)) K157_0 [(0, .ptr e 0), (3, .int .i64 out), (9, v), (10, .int .i64 len), (11, .int .i64 pre.length)] σ = some (.int .i64 (suf.foldl (fun out r => out ||| r / 2 ^ w * 2 ^ lead w r) out : Nat), σ) := by
  intro suf
  induction suf with
  | nil =>
    intro pre out hp ho
    have hll : len = pre.length := by rw [hlen, hp]; simp
    subst hll
    simp only [List.foldl_nil]
    rw [fi157]
    rw [xl157_0]
    simp only [B157_0, b157, Tryd.f157, Option.getD, fstC, sndC, bodyC, thnC, elsC]
    simp [xI_seq, xI_region, xI_ret, regA, regOps, runOps, opStep, wantedA, opA, evo, evos, calleeA, lk, nif_eq, putE, paramsE, valS, val2, keepE, restrict, finA, resA, binA, binInt, ofConst, ofConst1, loadA, TK.isAgg, asVar, unA, builtinA, lenOpA, lenA, ileb_cast, ileb_eq, ieqb_dec, indexAddrA, inB_dec, evPairs, storeA, AV.cellsOf, pairsOf, xI_nil, binBool, gcE, evOpt, tagZ, xI_block, xI_loopH, xI_condM, xI_exitM, xI_skip, xI_blk, exitA, ty2, ty3, ty24, ty180, eK157_0_0]
    simp only [R157_0_0, b157, Tryd.f157, Option.getD, fstC, sndC, bodyC, thnC, elsC]
    simp [xI_seq, xI_region, xI_ret, regA, regOps, runOps, opStep, wantedA, opA, evo, evos, calleeA, lk, nif_eq, putE, paramsE, valS, val2, keepE, restrict, finA, resA, binA, binInt, ofConst, ofConst1, loadA, TK.isAgg, asVar, unA, builtinA, lenOpA, lenA, ileb_cast, ileb_eq, ieqb_dec, indexAddrA, inB_dec, evPairs, storeA, AV.cellsOf, pairsOf, xI_nil, binBool, gcE, evOpt, tagZ, xI_block, xI_loopH, xI_condM, xI_exitM, xI_skip, xI_blk, exitA, ty2, ty3, ty24, ty180, eK157_0_0]
  | cons r suf ih =>
    intro pre out hp ho
    have hll : len = pre.length + (suf.length + 1) := by rw [hlen, hp]; simp
    have hr := hf r (by simp [hp])
    have hg : (nints rows)[pre.length]? = some (r : Int) := nints_get (by simp [hp])
    have hlt : ¬ len ≤ pre.length := by omega
    have hlt2 : pre.length < len := by omega
    have hlt3 : pre.length < rows.length := by omega
    have hw1 := wrapS (n := pre.length) (by omega)
    have hcw := hE.w
    have hw16 : 2 ^ w ≤ 4294967296 := pw_32 hw
    have hls := least_lt w [r] out (fun x hx => by rw [List.mem_singleton.1 hx]; exact hr) ho
    simp only [List.foldl_cons, List.foldl_nil] at hls
    obtain ⟨e1, e2, e3, e4⟩ := hE
    have hL := c174 w r hw (lt_w hw hr.1) σ e _ v e3 rfl
    rw [show ldI w r = ((lead w r : Nat) : Int) by unfold ldI; rw [if_neg (by omega)]] at hL
    obtain ⟨b, hb1, hb2, rfl, hrow⟩ : ∃ b, lo ≤ b ∧ b ≠ e ∧ v = .sl b 0 rows.length rows.length ∧ Row σ b (nints rows) := by
      rcases e4 with ⟨_, h⟩ | h
      · rw [h] at hp; simp at hp
      · exact h
    have hrd := hrow.read hg
    have s1 := sh_r (a := r) (b := w) (by omega)
    have h2 : shrN r w ≤ 1 := by
      have : r / 2 ^ w < 2 := by rw [Nat.div_lt_iff_lt_mul (Nat.pow_pos (by decide))]; have := hr.1; rw [Nat.pow_succ] at this; omega
      show r / 2 ^ w ≤ 1; omega
    have h3 : shrN r w * 2 ^ lead w r ≤ 1 * 4294967296 := Nat.mul_le_mul h2 (pw_32 (by omega))
    have s2 := sh_l (a := shrN r w) (b := lead w r) (by omega) (by omega)
    have s3 := n_or (a := out) (b := shlN (shrN r w) (lead w r)) (by omega) (by show shrN r w * 2 ^ lead w r ≤ _; omega)
    have s4 : ¬ ((lead w r : Nat) : Int) < 0 := by omega
    have s5 : ¬ ((w : Int) < 0) := by omega
    have h1 := ih (pre ++ [r]) (orN out (shlN (shrN r w) (lead w r))) (by simp [hp]) hls
    rw [List.foldl_cons, show out ||| r / 2 ^ w * 2 ^ lead w r = orN out (shlN (shrN r w) (lead w r)) from rfl]
    simp only [List.length_append, List.length_singleton] at h1
    rw [fi157] at h1 ⊢
    rw [xl157_0]
    simp only [B157_0, b157, Tryd.f157, Option.getD, fstC, sndC, bodyC, thnC, elsC]
    simp [xI_seq, xI_region, xI_ret, regA, regOps, runOps, opStep, wantedA, opA, evo, evos, calleeA, lk, nif_eq, putE, paramsE, valS, val2, keepE, restrict, finA, resA, binA, binInt, ofConst, ofConst1, loadA, TK.isAgg, asVar, unA, builtinA, lenOpA, lenA, ileb_cast, ileb_eq, ieqb_dec, indexAddrA, inB_dec, evPairs, storeA, AV.cellsOf, pairsOf, xI_nil, binBool, gcE, evOpt, tagZ, xI_block, xI_loopH, xI_condM, xI_exitM, xI_skip, xI_blk, exitA, ty2, ty3, ty24, ty180, eK157_0_0, runTr, pairsOk, pairOk, lstAt, lastOf, sameVal, AV.eqv, eqvs, eqvs_ints, regOps, blt_dec, cond_true, cond_false, fieldAddrA, ty2, ty3, ty24, ty180, hlt, hlt2, hlt3, hw1, hcw, hL, hrd, s1, s2, s3, s4, s5]
    simpa using h1
theorem c157 (w : Nat) (hw : w ≤ 32) (σ : St) (e lo : Nat) (rows : List Nat) (v : AV) (hE : ES σ e lo w rows v) (hf : Fine w rows) (hl : rows.length ≤ 100000) :
    callI TT 157 [.ptr e 0] σ = some (.int .i64 (least w rows : Nat), σ) := by
  have h := l157 w hw σ e lo rows v hE hf rows.length rfl hl rows [] 0 rfl (Nat.pow_pos (by decide))
  have hv := hE.v
  simp only [List.length_nil, Int.natCast_zero, show ((0 : Nat) : Int) = 0 from rfl] at h
  rw [cI_0 fn157 rfl md157, show least w rows = rows.foldl (fun out r => out ||| r / 2 ^ w * 2 ^ lead w r) 0 from rfl, ← h, fi157]
  obtain ⟨_, _, _, hE4⟩ := hE
  rcases hE4 with ⟨rfl, rfl⟩ | ⟨b, hb1, hb2, rfl, hrow⟩
  · simp [xI_seq, xI_region, xI_ret, regA, regOps, runOps, opStep, wantedA, opA, evo, evos, calleeA, lk, nif_eq, putE, paramsE, valS, val2, keepE, restrict, finA, resA, binA, binInt, ofConst, ofConst1, loadA, TK.isAgg, asVar, unA, builtinA, lenOpA, lenA, ileb_cast, ileb_eq, ieqb_dec, indexAddrA, inB_dec, evPairs, storeA, AV.cellsOf, pairsOf, xI_nil, binBool, gcE, evOpt, tagZ, xI_block, xI_loopH, xI_condM, xI_exitM, xI_skip, xI_blk, exitA, ty2, ty3, ty24, ty180, eK157_0_0, fieldAddrA, ty2, ty3, ty24, ty180, hv]
    rfl
  · simp [xI_seq, xI_region, xI_ret, regA, regOps, runOps, opStep, wantedA, opA, evo, evos, calleeA, lk, nif_eq, putE, paramsE, valS, val2, keepE, restrict, finA, resA, binA, binInt, ofConst, ofConst1, loadA, TK.isAgg, asVar, unA, builtinA, lenOpA, lenA, ileb_cast, ileb_eq, ieqb_dec, indexAddrA, inB_dec, evPairs, storeA, AV.cellsOf, pairsOf, xI_nil, binBool, gcE, evOpt, tagZ, xI_block, xI_loopH, xI_condM, xI_exitM, xI_skip, xI_blk, exitA, ty2, ty3, ty24, ty180, eK157_0_0, fieldAddrA, ty2, ty3, ty24, ty180, hv]
    rfl

open Go.Wd
theorem getCells_ints {l : List Int} {n : Nat} (h : n = l.length) : getCells (ints l) 0 (n * 1) = some (ints l) := by rw [Nat.mul_one]; exact getCells_full h
theorem s159 (l : List Int) (hl : l.length ≤ 1000000) : FnS TT 159 [.lst l.length (ints l)] l := by
  cases l with
  | nil =>
    refine FnS.mk fn159 rfl md159 ⟨((⟨[], 0⟩ : St).push ⟨[], 1, false⟩), 0, false, ?_, rfl⟩
    rw [fi159]
    simp [xI_seq, xI_region, xI_ret, regA, regOps, runOps, opStep, wantedA, opA, evo, evos, calleeA, lk, nif_eq, putE, paramsE, valS, val2, keepE, restrict, finA, resA, binA, binInt, ofConst, ofConst1, loadA, TK.isAgg, asVar, unA, builtinA, lenOpA, lenA, ileb_cast, ileb_eq, ieqb_dec, indexAddrA, inB_dec, evPairs, storeA, AV.cellsOf, pairsOf, xI_nil, binBool, gcE, evOpt, tagZ, xI_block, xI_loopH, xI_condM, xI_exitM, xI_skip, xI_blk, exitA, ty2, ty24, bn0, appendA, firstA, getCells, dropN, takeN, allOne, storeCellsA, putN, overN, ints_nil, n_push, St.push, St.get, St.set, hget, hset]
  | cons x l =>
    obtain ⟨n, hn⟩ : ∃ n, n = (x :: l).length := ⟨_, rfl⟩
    have hn0 : 0 < n := by rw [hn]; simp
    obtain ⟨σ, hσ⟩ : ∃ σ, (⟨[], 0⟩ : St).push ⟨ints [], 1, false⟩ = σ := ⟨_, rfl⟩
    have hnn : σ.n = 1 := by subst hσ; rfl
    have ha : appendA TT σ 24 24 (.sl 0 0 0 0) (.lst n (ints (x :: l))) = some (.sl 1 0 n n, σ.push ⟨ints (x :: l), 1, true⟩) := by
      unfold appendA
      have h1 : firstA σ 1 n (.lst n (ints (x :: l))) = some (ints (x :: l)) := getCells_ints hn
      have h2 : σ.get 0 = some ⟨ints [], 1, false⟩ := by subst hσ; rfl
      simp only [ty24, ty2, lenA, h1, allOne_ints, h2]
      rw [if_neg (by simp), if_neg (by omega)]
      have h3 : getCells (ints []) 0 (0 * 1) = some (ints []) := rfl
      simp only [h3]
      rw [if_pos ⟨by omega, by omega, trivial, rfl, by omega⟩]
      simp [hnn, ints_nil, growE]
    rw [← hn]
    have hr : Row (σ.push ⟨ints (x :: l), 1, true⟩) 1 (x :: l) := by
      have := Row.push (σ := σ) (l := x :: l) (o := true)
      rwa [hnn] at this
    have hn1 : l.length + 1 = n := by rw [hn]; simp
    obtain ⟨o, hr, _⟩ := hr
    refine FnS.mk fn159 rfl md159 ⟨σ.push ⟨ints (x :: l), 1, true⟩, 1, o, ?_, hr⟩
    rw [← hn, fi159]
    simp [xI_seq, xI_region, xI_ret, regA, regOps, runOps, opStep, wantedA, opA, evo, evos, calleeA, lk, nif_eq, putE, paramsE, valS, val2, keepE, restrict, finA, resA, binA, binInt, ofConst, ofConst1, loadA, TK.isAgg, asVar, unA, builtinA, lenOpA, lenA, ileb_cast, ileb_eq, ieqb_dec, indexAddrA, inB_dec, evPairs, storeA, AV.cellsOf, pairsOf, xI_nil, binBool, gcE, evOpt, tagZ, xI_block, xI_loopH, xI_condM, xI_exitM, xI_skip, xI_blk, exitA, ty2, ty24, bn0, hσ, ha, hn1]
/-- The place of the first with a bit, or the number of all. -/
def fst1 (c : Nat) : List Nat → Nat
  | [] => 0
  | e :: r => if e.testBit c = true then 0 else fst1 c r + 1
theorem fst1_le (c : Nat) : ∀ l, fst1 c l ≤ l.length
  | [] => Nat.le_refl _
  | e :: r => by have := fst1_le c r; simp only [fst1]; split <;> simp <;> omega
theorem fst1_find (c : Nat) : ∀ l, l.findIdx? (fun e => e.testBit c) = if fst1 c l < l.length then some (fst1 c l) else none
  | [] => rfl
  | e :: r => by
    rw [List.findIdx?_cons]
    simp only [fst1]
    by_cases h : e.testBit c = true
    · simp [h]
    · simp only [h, if_false, fst1_find c r]
      by_cases h2 : fst1 c r < r.length
      · rw [if_pos h2]; simp [h2]
      · rw [if_neg h2]; simp [h2]
/-- What is added to the others. -/
def wip (c piv e : Nat) : Nat := if e.testBit c = true then xorN e piv else e
/-- All but one. -/
def ers (i : Nat) : Nat → List Nat → List Nat
  | _, [] => []
  | k, e :: r => if k = i then ers i (k + 1) r else e :: ers i (k + 1) r
theorem ers_eq (i : Nat) : ∀ (l : List Nat) (k : Nat), ers i k l = if k ≤ i then l.eraseIdx (i - k) else l
  | [], k => by simp [ers]
  | e :: r, k => by
    simp only [ers, ers_eq i r (k + 1)]
    by_cases h : k = i
    · subst h; simp; omega
    · rw [if_neg h]
      by_cases h2 : k ≤ i
      · rw [if_pos (by omega), if_pos h2, show i - k = (i - (k + 1)) + 1 by omega, List.eraseIdx_cons_succ]
      · rw [if_neg (by omega), if_neg h2]
theorem elim_no {c : Nat} {es : List Nat} (h : ¬ fst1 c es < es.length) : elim c es = es := by
  unfold elim; rw [fst1_find, if_neg h]
theorem elim_yes {c : Nat} {es : List Nat} (h : fst1 c es < es.length) : elim c es = (ers (fst1 c es) 0 es).map (wip c (es.getD (fst1 c es) 0)) := by
  unfold elim; rw [fst1_find, if_pos h, ers_eq, if_pos (Nat.zero_le _)]; rfl
theorem elim_62 {c : Nat} {es : List Nat} (h : ∀ e ∈ es, e < 2 ^ 62) : ∀ e ∈ elim c es, e < 2 ^ 62 := by
  intro e he
  by_cases hc : fst1 c es < es.length
  · rw [elim_yes hc] at he
    obtain ⟨x, hx, rfl⟩ := List.mem_map.1 he
    rw [ers_eq, if_pos (Nat.zero_le _)] at hx
    have hx := h x (List.mem_of_mem_eraseIdx hx)
    have hp : es.getD (fst1 c es) 0 < 2 ^ 62 := by
      rw [List.getD_eq_getElem?_getD, List.getElem?_eq_getElem hc]; exact h _ (List.getElem_mem hc)
    unfold wip; split
    · exact xorN_lt hx hp
    · exact hx
  · rw [elim_no hc] at he; exact h e he
theorem elim_len {c : Nat} (es : List Nat) : (elim c es).length ≤ es.length := by
  by_cases hc : fst1 c es < es.length
  · rw [elim_yes hc, List.length_map, ers_eq, if_pos (Nat.zero_le _), List.length_eraseIdx]; split <;> omega
  · rw [elim_no hc]; omega

noncomputable def b158 : Code := Tryd.f158.body.getD .skip
noncomputable def B158_0 : Code := (bodyC (bodyC (sndC (fstC (sndC (sndC b158))))))
noncomputable def K158_0 : List It := .lp B158_0 :: .blk 0 :: .code (sndC (sndC (sndC b158))) :: []
theorem xl158_0 {fi : FI} {env : Env} {σ : St} : exI TT fi K158_0 env σ = exI TT fi (.code B158_0 :: K158_0) env σ := by unfold K158_0; exact xI_lp
noncomputable def R158_0_0 : List It := .code (sndC (sndC (sndC b158))) :: []
theorem eK158_0_0 : exitA 0 K158_0 = some R158_0_0 := rfl
noncomputable def B158_1 : Code := (bodyC (bodyC (fstC (sndC (bodyC (fstC (sndC (bodyC (bodyC (sndC (fstC (sndC (sndC b158)))))))))))))
noncomputable def K158_1 : List It := .lp B158_1 :: .blk 2 :: .code (sndC (sndC (bodyC (fstC (sndC (bodyC (bodyC (sndC (fstC (sndC (sndC b158))))))))))) :: .blk 1 :: .code (sndC (sndC (bodyC (bodyC (sndC (fstC (sndC (sndC b158)))))))) :: K158_0
theorem xl158_1 {fi : FI} {env : Env} {σ : St} : exI TT fi K158_1 env σ = exI TT fi (.code B158_1 :: K158_1) env σ := by unfold K158_1; exact xI_lp
noncomputable def R158_1_2 : List It := .code (sndC (sndC (bodyC (fstC (sndC (bodyC (bodyC (sndC (fstC (sndC (sndC b158))))))))))) :: .blk 1 :: .code (sndC (sndC (bodyC (bodyC (sndC (fstC (sndC (sndC b158)))))))) :: K158_0
theorem eK158_1_2 : exitA 2 K158_1 = some R158_1_2 := rfl
noncomputable def R158_1_1 : List It := .code (sndC (sndC (bodyC (bodyC (sndC (fstC (sndC (sndC b158)))))))) :: K158_0
theorem eK158_1_1 : exitA 1 K158_1 = some R158_1_1 := rfl
theorem eK158_1_0 : exitA 0 K158_1 = some R158_0_0 := rfl
noncomputable def B158_2 : Code := (bodyC (bodyC (sndC (fstC (sndC (sndC (sndC (sndC (sndC (bodyC (fstC (sndC (bodyC (bodyC (sndC (fstC (sndC (sndC b158))))))))))))))))))
noncomputable def K158_2 : List It := .lp B158_2 :: .blk 4 :: .code (sndC (sndC (sndC (sndC (sndC (sndC (bodyC (fstC (sndC (bodyC (bodyC (sndC (fstC (sndC (sndC b158))))))))))))))) :: .blk 1 :: .code (sndC (sndC (bodyC (bodyC (sndC (fstC (sndC (sndC b158)))))))) :: K158_0
theorem xl158_2 {fi : FI} {env : Env} {σ : St} : exI TT fi K158_2 env σ = exI TT fi (.code B158_2 :: K158_2) env σ := by unfold K158_2; exact xI_lp
noncomputable def R158_2_4 : List It := .code (sndC (sndC (sndC (sndC (sndC (sndC (bodyC (fstC (sndC (bodyC (bodyC (sndC (fstC (sndC (sndC b158))))))))))))))) :: .blk 1 :: .code (sndC (sndC (bodyC (bodyC (sndC (fstC (sndC (sndC b158)))))))) :: K158_0
theorem eK158_2_4 : exitA 4 K158_2 = some R158_2_4 := rfl
noncomputable def R158_2_1 : List It := .code (sndC (sndC (bodyC (bodyC (sndC (fstC (sndC (sndC b158)))))))) :: K158_0
theorem eK158_2_1 : exitA 1 K158_2 = some R158_2_1 := rfl
theorem eK158_2_0 : exitA 0 K158_2 = some R158_0_0 := rfl
noncomputable def B158_3 : Code := (bodyC (bodyC (sndC (fstC (sndC (sndC (sndC b158)))))))
noncomputable def K158_3 : List It := .lp B158_3 :: .blk 6 :: .code (sndC (sndC (sndC (sndC b158)))) :: []
theorem xl158_3 {fi : FI} {env : Env} {σ : St} : exI TT fi K158_3 env σ = exI TT fi (.code B158_3 :: K158_3) env σ := by unfold K158_3; exact xI_lp
noncomputable def R158_3_6 : List It := .code (sndC (sndC (sndC (sndC b158)))) :: []
theorem eK158_3_6 : exitA 6 K158_3 = some R158_3_6 := rfl
theorem l158a (w c : Nat) (hc : c ≤ 62) (es : List Nat) (hes : ∀ e ∈ es, e < 2 ^ 62) (n b : Nat) (hn : n = es.length) (hl : n ≤ 1000000) (σ : St) (hr : Row σ b (nints es)) : ∀ (suf pre : List Nat), es = pre ++ suf →
    exI TT (FI.of Tryd.f158 (TT.an 158)) K158_1 [(1, .int .u64 w), (5, .sl b 0 n n), (6, .int .u64 c), (7, .int .i64 pre.length)] σ = exI TT (FI.of Tryd.f158 (TT.an 158)) R158_1_2 [(1, .int .u64 w), (5, .sl b 0 n n), (6, .int .u64 c), (7, .int .i64 (pre.length + fst1 c suf : Nat)), (32, .bool false)] σ := by
  intro suf
  induction suf with
  | nil =>
    intro pre hp
    have hll : n = pre.length := by rw [hn, hp]; simp
    subst hll
    simp only [fst1, Nat.add_zero]
    rw [fi158]
    rw [xl158_1]
    simp only [B158_1, b158, Tryd.f158, Option.getD, fstC, sndC, bodyC, thnC, elsC]
    simp [xI_seq, xI_region, xI_ret, regA, regOps, runOps, opStep, wantedA, opA, evo, evos, calleeA, lk, nif_eq, putE, paramsE, valS, val2, keepE, restrict, finA, resA, binA, binInt, ofConst, ofConst1, loadA, TK.isAgg, asVar, unA, builtinA, lenOpA, lenA, ileb_cast, ileb_eq, ieqb_dec, indexAddrA, inB_dec, evPairs, storeA, AV.cellsOf, pairsOf, xI_nil, binBool, gcE, evOpt, tagZ, xI_block, xI_loopH, xI_condM, xI_exitM, xI_skip, xI_blk, exitA, ty2, ty3, ty24, ty36, eK158_0_0, eK158_1_2, eK158_1_1, eK158_1_0, eK158_2_4, eK158_2_1, eK158_2_0, eK158_3_6]
  | cons e suf ih =>
    intro pre hp
    have hll : n = pre.length + (suf.length + 1) := by rw [hn, hp]; simp
    have hg : (nints es)[pre.length]? = some (e : Int) := nints_get (by simp [hp])
    have he := hes e (by simp [hp])
    have hlt : ¬ n ≤ pre.length := by omega
    have hlt2 : pre.length < n := by omega
    have hw1 := wrapS (n := pre.length) (by omega)
    have hrd := hr.read hg
    have s1 := sh_r (a := e) (b := c) (by omega)
    have hsl : shrN e c ≤ e := Nat.div_le_self _ _
    have s2 := n_and1 (a := shrN e c) (lt_62 (by omega))
    by_cases hb : e.testBit c = true
    · have hm := (bit_mod e c).2 hb
      have hm' : ¬ ((modN (shrN e c) 2 : Nat) : Int) = 0 := by omega
      simp only [fst1, hb, if_true, Nat.add_zero]
      rw [fi158]
      rw [xl158_1]
      simp only [B158_1, b158, Tryd.f158, Option.getD, fstC, sndC, bodyC, thnC, elsC]
      simp [xI_seq, xI_region, xI_ret, regA, regOps, runOps, opStep, wantedA, opA, evo, evos, calleeA, lk, nif_eq, putE, paramsE, valS, val2, keepE, restrict, finA, resA, binA, binInt, ofConst, ofConst1, loadA, TK.isAgg, asVar, unA, builtinA, lenOpA, lenA, ileb_cast, ileb_eq, ieqb_dec, indexAddrA, inB_dec, evPairs, storeA, AV.cellsOf, pairsOf, xI_nil, binBool, gcE, evOpt, tagZ, xI_block, xI_loopH, xI_condM, xI_exitM, xI_skip, xI_blk, exitA, ty2, ty3, ty24, ty36, eK158_0_0, eK158_1_2, eK158_1_1, eK158_1_0, eK158_2_4, eK158_2_1, eK158_2_0, eK158_3_6, hlt, hlt2, hw1, hrd, s1, s2, hm, hm']
    · have hm0 : ¬ modN (shrN e c) 2 = 1 := fun h => hb ((bit_mod e c).1 h)
      have hm1 : modN (shrN e c) 2 < 2 := Nat.mod_lt _ (by decide)
      have hm : modN (shrN e c) 2 = 0 := by omega
      have hm' : ((modN (shrN e c) 2 : Nat) : Int) = 0 := by omega
      have h1 := ih (pre ++ [e]) (by simp [hp])
      rw [show pre.length + fst1 c (e :: suf) = (pre ++ [e]).length + fst1 c suf by simp [fst1, hb]; omega]
      rw [show (pre ++ [e]).length + fst1 c suf = pre.length + 1 + fst1 c suf by simp] at h1 ⊢
      generalize pre.length + 1 + fst1 c suf = z at *
      simp only [List.length_append, List.length_singleton] at h1
      rw [fi158] at h1 ⊢
      rw [xl158_1]
      simp only [B158_1, b158, Tryd.f158, Option.getD, fstC, sndC, bodyC, thnC, elsC]
      simp [xI_seq, xI_region, xI_ret, regA, regOps, runOps, opStep, wantedA, opA, evo, evos, calleeA, lk, nif_eq, putE, paramsE, valS, val2, keepE, restrict, finA, resA, binA, binInt, ofConst, ofConst1, loadA, TK.isAgg, asVar, unA, builtinA, lenOpA, lenA, ileb_cast, ileb_eq, ieqb_dec, indexAddrA, inB_dec, evPairs, storeA, AV.cellsOf, pairsOf, xI_nil, binBool, gcE, evOpt, tagZ, xI_block, xI_loopH, xI_condM, xI_exitM, xI_skip, xI_blk, exitA, ty2, ty3, ty24, ty36, eK158_0_0, eK158_1_2, eK158_1_1, eK158_1_0, eK158_2_4, eK158_2_1, eK158_2_0, eK158_3_6, hlt, hlt2, hw1, hrd, s1, s2, hm, hm']
      simpa using h1
theorem l158b (w c : Nat) (hc : c ≤ 62) (es : List Nat) (hes : ∀ e ∈ es, e < 2 ^ 62) (n bv i piv : Nat) (hn : n = es.length) (hl : n ≤ 1000000) (hpv : piv < 2 ^ 62) : ∀ (suf pre acc : List Nat) (σ : St) (b : Nat), es = pre ++ suf → acc.length ≤ pre.length → Row σ bv (nints es) → bv ≠ b → Row σ b (nints acc) →
    ∃ σ' b' m, exI TT (FI.of Tryd.f158 (TT.an 158)) K158_2 [(1, .int .u64 w), (5, .sl bv 0 n n), (6, .int .u64 c), (7, .int .i64 i), (8, .int .i64 piv), (9, .sl b 0 acc.length acc.length), (10, .int .i64 pre.length)] σ =
      exI TT (FI.of Tryd.f158 (TT.an 158)) R158_2_4 [(1, .int .u64 w), (5, .sl bv 0 n n), (6, .int .u64 c), (7, .int .i64 i), (8, .int .i64 piv), (9, .sl b' 0 m m), (10, .int .i64 n), (47, .bool false)] σ' ∧ m = (acc ++ (ers i pre.length suf).map (wip c piv)).length ∧ Row σ' b' (nints (acc ++ (ers i pre.length suf).map (wip c piv))) := by
  intro suf
  induction suf with
  | nil =>
    intro pre acc σ b hp ha hv hbb hr
    have hll : n = pre.length := by rw [hn, hp]; simp
    subst hll
    refine ⟨σ, b, acc.length, ?_, by simp [ers], by simpa [ers] using hr⟩
    rw [fi158]
    rw [xl158_2]
    simp only [B158_2, b158, Tryd.f158, Option.getD, fstC, sndC, bodyC, thnC, elsC]
    simp [xI_seq, xI_region, xI_ret, regA, regOps, runOps, opStep, wantedA, opA, evo, evos, calleeA, lk, nif_eq, putE, paramsE, valS, val2, keepE, restrict, finA, resA, binA, binInt, ofConst, ofConst1, loadA, TK.isAgg, asVar, unA, builtinA, lenOpA, lenA, ileb_cast, ileb_eq, ieqb_dec, indexAddrA, inB_dec, evPairs, storeA, AV.cellsOf, pairsOf, xI_nil, binBool, gcE, evOpt, tagZ, xI_block, xI_loopH, xI_condM, xI_exitM, xI_skip, xI_blk, exitA, ty2, ty3, ty24, ty36, eK158_0_0, eK158_1_2, eK158_1_1, eK158_1_0, eK158_2_4, eK158_2_1, eK158_2_0, eK158_3_6]
  | cons e suf ih =>
    intro pre acc σ b hp ha hv hbb hr
    have hll : n = pre.length + (suf.length + 1) := by rw [hn, hp]; simp
    have hg : (nints es)[pre.length]? = some (e : Int) := nints_get (by simp [hp])
    have he := hes e (by simp [hp])
    have hlt : ¬ n ≤ pre.length := by omega
    have hlt2 : pre.length < n := by omega
    have hw1 := wrapS (n := pre.length) (by omega)
    have hrd := hv.read hg
    have hvl := hv.lt
    by_cases hi : pre.length = i
    · subst hi
      obtain ⟨σ', b', m, h1, h2, h3⟩ := ih (pre ++ [e]) acc σ b (by simp [hp]) (by simp; omega) hv hbb hr
      simp only [show (pre ++ [e]).length = pre.length + 1 by simp] at h1 h2 h3
      refine ⟨σ', b', m, ?_, by rw [h2]; simp [ers], by rw [show ers pre.length pre.length (e :: suf) = ers pre.length (pre.length + 1) suf by simp [ers]]; exact h3⟩
      rw [fi158] at h1 ⊢
      rw [xl158_2]
      simp only [B158_2, b158, Tryd.f158, Option.getD, fstC, sndC, bodyC, thnC, elsC]
      simp [xI_seq, xI_region, xI_ret, regA, regOps, runOps, opStep, wantedA, opA, evo, evos, calleeA, lk, nif_eq, putE, paramsE, valS, val2, keepE, restrict, finA, resA, binA, binInt, ofConst, ofConst1, loadA, TK.isAgg, asVar, unA, builtinA, lenOpA, lenA, ileb_cast, ileb_eq, ieqb_dec, indexAddrA, inB_dec, evPairs, storeA, AV.cellsOf, pairsOf, xI_nil, binBool, gcE, evOpt, tagZ, xI_block, xI_loopH, xI_condM, xI_exitM, xI_skip, xI_blk, exitA, ty2, ty3, ty24, ty36, eK158_0_0, eK158_1_2, eK158_1_1, eK158_1_0, eK158_2_4, eK158_2_1, eK158_2_0, eK158_3_6, hlt, hlt2, hw1]
      simpa using h1
    · have hi' : ¬ ((pre.length : Nat) : Int) = (i : Int) := by omega
      have s1 := sh_r (a := e) (b := c) (by omega)
      have hsl : shrN e c ≤ e := Nat.div_le_self _ _
      have s2 := n_and1 (a := shrN e c) (lt_62 (by omega))
      have s3 := n_xor (a := e) (b := piv) (lt_62 he) (lt_62 hpv)
      obtain ⟨y, hy⟩ : ∃ y, y = wip c piv e := ⟨_, rfl⟩
      obtain ⟨σ1, hap, hr1, hn1, hu1⟩ := nints_append_row (x := y) ty24 ty2 hr (n := acc.length) rfl (by omega)
      have hv1 : Row σ1 bv (nints es) := hv.keep (by omega) (hu1 bv hbb hvl)
      obtain ⟨σ', b', m, h1, h2, h3⟩ := ih (pre ++ [e]) (acc ++ [y]) σ1 (σ.n + 1) (by simp [hp]) (by simp; omega) hv1 (by omega) hr1
      simp only [show (pre ++ [e]).length = pre.length + 1 by simp, show (acc ++ [y]).length = acc.length + 1 by simp] at h1 h2 h3
      refine ⟨σ', b', m, ?_, by rw [h2, hy]; simp [ers, hi], by rw [show acc ++ (ers i pre.length (e :: suf)).map (wip c piv) = acc ++ [y] ++ (ers i (pre.length + 1) suf).map (wip c piv) by simp [ers, hi, hy]]; exact h3⟩
      by_cases hb : e.testBit c = true
      · have hm := (bit_mod e c).2 hb
        have hm' : ((modN (shrN e c) 2 : Nat) : Int) = 1 := by omega
        rw [show y = xorN e piv by rw [hy]; simp [wip, hb]] at hap
        rw [fi158] at h1 ⊢
        rw [xl158_2]
        simp only [B158_2, b158, Tryd.f158, Option.getD, fstC, sndC, bodyC, thnC, elsC]
        simp [xI_seq, xI_region, xI_ret, regA, regOps, runOps, opStep, wantedA, opA, evo, evos, calleeA, lk, nif_eq, putE, paramsE, valS, val2, keepE, restrict, finA, resA, binA, binInt, ofConst, ofConst1, loadA, TK.isAgg, asVar, unA, builtinA, lenOpA, lenA, ileb_cast, ileb_eq, ieqb_dec, indexAddrA, inB_dec, evPairs, storeA, AV.cellsOf, pairsOf, xI_nil, binBool, gcE, evOpt, tagZ, xI_block, xI_loopH, xI_condM, xI_exitM, xI_skip, xI_blk, exitA, ty2, ty3, ty24, ty36, eK158_0_0, eK158_1_2, eK158_1_1, eK158_1_0, eK158_2_4, eK158_2_1, eK158_2_0, eK158_3_6, hlt, hlt2, hw1, hi', hi, hrd, s1, s2, s3, hm, hm', bs1, hap]
        simpa using h1
      · have hm : ¬ modN (shrN e c) 2 = 1 := fun h => hb ((bit_mod e c).1 h)
        have hm' : ¬ ((modN (shrN e c) 2 : Nat) : Int) = 1 := by omega
        rw [show y = e by rw [hy]; simp [wip, hb]] at hap
        rw [fi158] at h1 ⊢
        rw [xl158_2]
        simp only [B158_2, b158, Tryd.f158, Option.getD, fstC, sndC, bodyC, thnC, elsC]
        simp [xI_seq, xI_region, xI_ret, regA, regOps, runOps, opStep, wantedA, opA, evo, evos, calleeA, lk, nif_eq, putE, paramsE, valS, val2, keepE, restrict, finA, resA, binA, binInt, ofConst, ofConst1, loadA, TK.isAgg, asVar, unA, builtinA, lenOpA, lenA, ileb_cast, ileb_eq, ieqb_dec, indexAddrA, inB_dec, evPairs, storeA, AV.cellsOf, pairsOf, xI_nil, binBool, gcE, evOpt, tagZ, xI_block, xI_loopH, xI_condM, xI_exitM, xI_skip, xI_blk, exitA, ty2, ty3, ty24, ty36, eK158_0_0, eK158_1_2, eK158_1_1, eK158_1_0, eK158_2_4, eK158_2_1, eK158_2_0, eK158_3_6, hlt, hlt2, hw1, hi', hi, hrd, s1, s2, s3, hm, hm', bs1, hap]
        simpa using h1
theorem l158z (es : List Nat) (n b : Nat) (hn : n = es.length) (hl : n ≤ 1000000) (σ : St) (hr : Row σ b (nints es)) : ∀ (suf pre : List Nat), es = pre ++ suf →
    exI TT (FI.of Tryd.f158 (TT.an 158)) K158_3 [(5, .sl b 0 n n), (11, .int .i64 pre.length)] σ = some (.bool (suf.all (· == 0)), σ) := by
  intro suf
  induction suf with
  | nil =>
    intro pre hp
    have hll : n = pre.length := by rw [hn, hp]; simp
    subst hll
    rw [fi158]
    rw [xl158_3]
    simp only [B158_3, b158, Tryd.f158, Option.getD, fstC, sndC, bodyC, thnC, elsC]
    simp [xI_seq, xI_region, xI_ret, regA, regOps, runOps, opStep, wantedA, opA, evo, evos, calleeA, lk, nif_eq, putE, paramsE, valS, val2, keepE, restrict, finA, resA, binA, binInt, ofConst, ofConst1, loadA, TK.isAgg, asVar, unA, builtinA, lenOpA, lenA, ileb_cast, ileb_eq, ieqb_dec, indexAddrA, inB_dec, evPairs, storeA, AV.cellsOf, pairsOf, xI_nil, binBool, gcE, evOpt, tagZ, xI_block, xI_loopH, xI_condM, xI_exitM, xI_skip, xI_blk, exitA, ty2, ty3, ty24, ty36, eK158_0_0, eK158_1_2, eK158_1_1, eK158_1_0, eK158_2_4, eK158_2_1, eK158_2_0, eK158_3_6]
    simp only [R158_3_6, b158, Tryd.f158, Option.getD, fstC, sndC, bodyC, thnC, elsC]
    simp [xI_seq, xI_region, xI_ret, regA, regOps, runOps, opStep, wantedA, opA, evo, evos, calleeA, lk, nif_eq, putE, paramsE, valS, val2, keepE, restrict, finA, resA, binA, binInt, ofConst, ofConst1, loadA, TK.isAgg, asVar, unA, builtinA, lenOpA, lenA, ileb_cast, ileb_eq, ieqb_dec, indexAddrA, inB_dec, evPairs, storeA, AV.cellsOf, pairsOf, xI_nil, binBool, gcE, evOpt, tagZ, xI_block, xI_loopH, xI_condM, xI_exitM, xI_skip, xI_blk, exitA, ty2, ty3, ty24, ty36, eK158_0_0, eK158_1_2, eK158_1_1, eK158_1_0, eK158_2_4, eK158_2_1, eK158_2_0, eK158_3_6]
  | cons e suf ih =>
    intro pre hp
    have hll : n = pre.length + (suf.length + 1) := by rw [hn, hp]; simp
    have hg : (nints es)[pre.length]? = some (e : Int) := nints_get (by simp [hp])
    have hlt : ¬ n ≤ pre.length := by omega
    have hlt2 : pre.length < n := by omega
    have hw1 := wrapS (n := pre.length) (by omega)
    have hrd := hr.read hg
    have h1 := ih (pre ++ [e]) (by simp [hp])
    simp only [show (pre ++ [e]).length = pre.length + 1 by simp] at h1
    by_cases h0 : e = 0
    · subst h0
      rw [fi158] at h1 ⊢
      rw [xl158_3]
      simp only [B158_3, b158, Tryd.f158, Option.getD, fstC, sndC, bodyC, thnC, elsC]
      simp [xI_seq, xI_region, xI_ret, regA, regOps, runOps, opStep, wantedA, opA, evo, evos, calleeA, lk, nif_eq, putE, paramsE, valS, val2, keepE, restrict, finA, resA, binA, binInt, ofConst, ofConst1, loadA, TK.isAgg, asVar, unA, builtinA, lenOpA, lenA, ileb_cast, ileb_eq, ieqb_dec, indexAddrA, inB_dec, evPairs, storeA, AV.cellsOf, pairsOf, xI_nil, binBool, gcE, evOpt, tagZ, xI_block, xI_loopH, xI_condM, xI_exitM, xI_skip, xI_blk, exitA, ty2, ty3, ty24, ty36, eK158_0_0, eK158_1_2, eK158_1_1, eK158_1_0, eK158_2_4, eK158_2_1, eK158_2_0, eK158_3_6, hlt, hlt2, hw1, hrd]
      simpa using h1
    · have h0' : ¬ (e : Int) = 0 := by omega
      rw [fi158]
      rw [xl158_3]
      simp only [B158_3, b158, Tryd.f158, Option.getD, fstC, sndC, bodyC, thnC, elsC]
      simp [xI_seq, xI_region, xI_ret, regA, regOps, runOps, opStep, wantedA, opA, evo, evos, calleeA, lk, nif_eq, putE, paramsE, valS, val2, keepE, restrict, finA, resA, binA, binInt, ofConst, ofConst1, loadA, TK.isAgg, asVar, unA, builtinA, lenOpA, lenA, ileb_cast, ileb_eq, ieqb_dec, indexAddrA, inB_dec, evPairs, storeA, AV.cellsOf, pairsOf, xI_nil, binBool, gcE, evOpt, tagZ, xI_block, xI_loopH, xI_condM, xI_exitM, xI_skip, xI_blk, exitA, ty2, ty3, ty24, ty36, eK158_0_0, eK158_1_2, eK158_1_1, eK158_1_0, eK158_2_4, eK158_2_1, eK158_2_0, eK158_3_6, hlt, hlt2, hw1, hrd, h0, h0']
theorem l158 (w : Nat) (hw : w ≤ 62) : ∀ (m c : Nat) (es : List Nat) (σ : St) (b : Nat), c + m = w → es.length ≤ 1000000 → (∀ e ∈ es, e < 2 ^ 62) → Row σ b (nints es) →
    ∃ σ', exI TT (FI.of Tryd.f158 (TT.an 158)) K158_0 [(1, .int .u64 w), (5, .sl b 0 es.length es.length), (6, .int .u64 c)] σ = some (.bool (solves m c es), σ') := by
  intro m
  induction m with
  | zero =>
    intro c es σ b hc hl hes hr
    obtain rfl : c = w := by omega
    have h := l158z es es.length b rfl hl σ hr es [] rfl
    simp only [List.length_nil, Int.natCast_zero, show ((0 : Nat) : Int) = 0 from rfl] at h
    refine ⟨σ, ?_⟩
    rw [show solves 0 c es = es.all (· == 0) from rfl, ← h]
    rw [fi158]
    rw [xl158_0]
    simp only [B158_0, b158, Tryd.f158, Option.getD, fstC, sndC, bodyC, thnC, elsC]
    simp [xI_seq, xI_region, xI_ret, regA, regOps, runOps, opStep, wantedA, opA, evo, evos, calleeA, lk, nif_eq, putE, paramsE, valS, val2, keepE, restrict, finA, resA, binA, binInt, ofConst, ofConst1, loadA, TK.isAgg, asVar, unA, builtinA, lenOpA, lenA, ileb_cast, ileb_eq, ieqb_dec, indexAddrA, inB_dec, evPairs, storeA, AV.cellsOf, pairsOf, xI_nil, binBool, gcE, evOpt, tagZ, xI_block, xI_loopH, xI_condM, xI_exitM, xI_skip, xI_blk, exitA, ty2, ty3, ty24, ty36, eK158_0_0, eK158_1_2, eK158_1_1, eK158_1_0, eK158_2_4, eK158_2_1, eK158_2_0, eK158_3_6]
    simp only [R158_0_0, b158, Tryd.f158, Option.getD, fstC, sndC, bodyC, thnC, elsC]
    simp [xI_seq, xI_region, xI_ret, regA, regOps, runOps, opStep, wantedA, opA, evo, evos, calleeA, lk, nif_eq, putE, paramsE, valS, val2, keepE, restrict, finA, resA, binA, binInt, ofConst, ofConst1, loadA, TK.isAgg, asVar, unA, builtinA, lenOpA, lenA, ileb_cast, ileb_eq, ieqb_dec, indexAddrA, inB_dec, evPairs, storeA, AV.cellsOf, pairsOf, xI_nil, binBool, gcE, evOpt, tagZ, xI_block, xI_loopH, xI_condM, xI_exitM, xI_skip, xI_blk, exitA, ty2, ty3, ty24, ty36, eK158_0_0, eK158_1_2, eK158_1_1, eK158_1_0, eK158_2_4, eK158_2_1, eK158_2_0, eK158_3_6]
    rfl
  | succ m ih =>
    intro c es σ b hc hl hes hr
    have hc62 : c ≤ 62 := by omega
    have hlt : ¬ w ≤ c := by omega
    have hlt2 : c < w := by omega
    have hw1 : wrapA .u64 ((c : Int) + 1) = ((c + 1 : Nat) : Int) := n_wrapu (a := c + 1) (by omega)
    have h1 := l158a w c hc62 es hes es.length b rfl hl σ hr es [] rfl
    simp only [List.length_nil, Int.natCast_zero, show ((0 : Nat) : Int) = 0 from rfl, Nat.zero_add] at h1
    have hle := fst1_le c es
    by_cases hf : fst1 c es < es.length
    · have hne : ¬ ((fst1 c es : Nat) : Int) = (es.length : Int) := by omega
      have hg : (nints es)[fst1 c es]? = some ((es.getD (fst1 c es) 0 : Nat) : Int) := nints_get (by rw [List.getD_eq_getElem?_getD, List.getElem?_eq_getElem hf]; rfl)
      have hrd := hr.read hg
      have hpv : es.getD (fst1 c es) 0 < 2 ^ 62 := by
        rw [List.getD_eq_getElem?_getD, List.getElem?_eq_getElem hf]; exact hes _ (List.getElem_mem hf)
      obtain ⟨piv, hpg⟩ : ∃ piv, es.getD (fst1 c es) 0 = piv := ⟨_, rfl⟩
      rw [hpg] at hrd hpv
      obtain ⟨σ', b', q, h2, h3, h4⟩ := l158b w c hc62 es hes es.length b (fst1 c es) piv rfl hl hpv es [] [] (σ.push ⟨ints [], 1, false⟩) σ.n rfl (Nat.le_refl _) hr.pushed (by have := hr.lt; omega) Row.push
      simp only [List.nil_append, List.length_nil, Int.natCast_zero, show ((0 : Nat) : Int) = 0 from rfl] at h2 h3 h4
      have hel : elim c es = (ers (fst1 c es) 0 es).map (wip c piv) := by rw [elim_yes hf, hpg]
      rw [← hel] at h3 h4
      obtain ⟨σ2, h5⟩ := ih (c + 1) (elim c es) σ' b' (by omega) (by have := elim_len (c := c) es; omega) (elim_62 hes) h4
      rw [← h3] at h5
      refine ⟨σ2, ?_⟩
      rw [show solves (m + 1) c es = solves m (c + 1) (elim c es) from rfl]
      rw [fi158] at h1 h2 h5 ⊢
      rw [xl158_0]
      simp only [B158_0, b158, Tryd.f158, Option.getD, fstC, sndC, bodyC, thnC, elsC]
      simp [xI_seq, xI_region, xI_ret, regA, regOps, runOps, opStep, wantedA, opA, evo, evos, calleeA, lk, nif_eq, putE, paramsE, valS, val2, keepE, restrict, finA, resA, binA, binInt, ofConst, ofConst1, loadA, TK.isAgg, asVar, unA, builtinA, lenOpA, lenA, ileb_cast, ileb_eq, ieqb_dec, indexAddrA, inB_dec, evPairs, storeA, AV.cellsOf, pairsOf, xI_nil, binBool, gcE, evOpt, tagZ, xI_block, xI_loopH, xI_condM, xI_exitM, xI_skip, xI_blk, exitA, ty2, ty3, ty24, ty36, eK158_0_0, eK158_1_2, eK158_1_1, eK158_1_0, eK158_2_4, eK158_2_1, eK158_2_0, eK158_3_6, hlt, hlt2]
      refine h1.trans ?_
      simp only [R158_1_2, b158, Tryd.f158, Option.getD, fstC, sndC, bodyC, thnC, elsC]
      simp [xI_seq, xI_region, xI_ret, regA, regOps, runOps, opStep, wantedA, opA, evo, evos, calleeA, lk, nif_eq, putE, paramsE, valS, val2, keepE, restrict, finA, resA, binA, binInt, ofConst, ofConst1, loadA, TK.isAgg, asVar, unA, builtinA, lenOpA, lenA, ileb_cast, ileb_eq, ieqb_dec, indexAddrA, inB_dec, evPairs, storeA, AV.cellsOf, pairsOf, xI_nil, binBool, gcE, evOpt, tagZ, xI_block, xI_loopH, xI_condM, xI_exitM, xI_skip, xI_blk, exitA, ty2, ty3, ty24, ty36, eK158_0_0, eK158_1_2, eK158_1_1, eK158_1_0, eK158_2_4, eK158_2_1, eK158_2_0, eK158_3_6, hlt, hlt2, hne, hrd, bn0, hf]
      refine h2.trans ?_
      simp only [R158_2_4, b158, Tryd.f158, Option.getD, fstC, sndC, bodyC, thnC, elsC]
      simp [xI_seq, xI_region, xI_ret, regA, regOps, runOps, opStep, wantedA, opA, evo, evos, calleeA, lk, nif_eq, putE, paramsE, valS, val2, keepE, restrict, finA, resA, binA, binInt, ofConst, ofConst1, loadA, TK.isAgg, asVar, unA, builtinA, lenOpA, lenA, ileb_cast, ileb_eq, ieqb_dec, indexAddrA, inB_dec, evPairs, storeA, AV.cellsOf, pairsOf, xI_nil, binBool, gcE, evOpt, tagZ, xI_block, xI_loopH, xI_condM, xI_exitM, xI_skip, xI_blk, exitA, ty2, ty3, ty24, ty36, eK158_0_0, eK158_1_2, eK158_1_1, eK158_1_0, eK158_2_4, eK158_2_1, eK158_2_0, eK158_3_6, hw1]
      exact h5
    · have hne : ((fst1 c es : Nat) : Int) = (es.length : Int) := by omega
      rw [hne] at h1
      obtain ⟨σ2, h5⟩ := ih (c + 1) es σ b (by omega) hl hes hr
      refine ⟨σ2, ?_⟩
      rw [show solves (m + 1) c es = solves m (c + 1) (elim c es) from rfl, elim_no hf]
      rw [fi158] at h1 h5 ⊢
      rw [xl158_0]
      simp only [B158_0, b158, Tryd.f158, Option.getD, fstC, sndC, bodyC, thnC, elsC]
      simp [xI_seq, xI_region, xI_ret, regA, regOps, runOps, opStep, wantedA, opA, evo, evos, calleeA, lk, nif_eq, putE, paramsE, valS, val2, keepE, restrict, finA, resA, binA, binInt, ofConst, ofConst1, loadA, TK.isAgg, asVar, unA, builtinA, lenOpA, lenA, ileb_cast, ileb_eq, ieqb_dec, indexAddrA, inB_dec, evPairs, storeA, AV.cellsOf, pairsOf, xI_nil, binBool, gcE, evOpt, tagZ, xI_block, xI_loopH, xI_condM, xI_exitM, xI_skip, xI_blk, exitA, ty2, ty3, ty24, ty36, eK158_0_0, eK158_1_2, eK158_1_1, eK158_1_0, eK158_2_4, eK158_2_1, eK158_2_0, eK158_3_6, hlt, hlt2]
      refine h1.trans ?_
      simp only [R158_1_2, b158, Tryd.f158, Option.getD, fstC, sndC, bodyC, thnC, elsC]
      simp [xI_seq, xI_region, xI_ret, regA, regOps, runOps, opStep, wantedA, opA, evo, evos, calleeA, lk, nif_eq, putE, paramsE, valS, val2, keepE, restrict, finA, resA, binA, binInt, ofConst, ofConst1, loadA, TK.isAgg, asVar, unA, builtinA, lenOpA, lenA, ileb_cast, ileb_eq, ieqb_dec, indexAddrA, inB_dec, evPairs, storeA, AV.cellsOf, pairsOf, xI_nil, binBool, gcE, evOpt, tagZ, xI_block, xI_loopH, xI_condM, xI_exitM, xI_skip, xI_blk, exitA, ty2, ty3, ty24, ty36, eK158_0_0, eK158_1_2, eK158_1_1, eK158_1_0, eK158_2_4, eK158_2_1, eK158_2_0, eK158_3_6, hw1]
      exact h5
theorem v158 (w : Nat) (hw : w ≤ 62) (es : List Nat) (hl : es.length ≤ 1000000) (hes : ∀ e ∈ es, e < 2 ^ 62) : FnV TT 158 [.lst es.length (ints (nints es)), .int .u64 w] (.bool (can w es)) := by
  have hO := s159 (nints es) (by rw [nints_length]; exact hl)
  rw [nints_length] at hO
  obtain ⟨b, σ1, c1, r1, _, _⟩ := hO.row (σ := ⟨[], 0⟩) (args := [.lst es.length (ints (nints es))]) rfl
  rw [nints_length] at c1
  obtain ⟨σ', h1⟩ := l158 w hw w 0 es σ1 b (by omega) hl hes r1
  refine FnV.mk fn158 rfl md158 ⟨σ', ?_⟩ (fun _ => rfl) rfl
  rw [show can w es = solves w 0 es from rfl, ← h1, fi158]
  simp [xI_seq, xI_region, xI_ret, regA, regOps, runOps, opStep, wantedA, opA, evo, evos, calleeA, lk, nif_eq, putE, paramsE, valS, val2, keepE, restrict, finA, resA, binA, binInt, ofConst, ofConst1, loadA, TK.isAgg, asVar, unA, builtinA, lenOpA, lenA, ileb_cast, ileb_eq, ieqb_dec, indexAddrA, inB_dec, evPairs, storeA, AV.cellsOf, pairsOf, xI_nil, binBool, gcE, evOpt, tagZ, xI_block, xI_loopH, xI_condM, xI_exitM, xI_skip, xI_blk, exitA, ty2, ty3, ty24, ty36, eK158_0_0, eK158_1_2, eK158_1_1, eK158_1_0, eK158_2_4, eK158_2_1, eK158_2_0, eK158_3_6, c1]
  rfl

open Go.Wd
def bitf (l : List UInt8) (i : Nat) : Bool := decide (l[i]? = some 49)
open Go.Wd
theorem bit_get {l : List UInt8} (h : l.all isBit = true) {i : Nat} (hi : i < l.length) : l[i]? = some (bb (bitf l i).toNat) := by
  obtain ⟨x, hx⟩ := get_at hi
  have hb := isBit_at h hx
  have h2 : x = bb (bitf l i).toNat := by
    apply UInt8.toNat_inj.1
    rw [bitf, hx]
    rcases hb with e | e
    · have : x = 48 := UInt8.toNat_inj.1 e
      subst this; rfl
    · have : x = 49 := UInt8.toNat_inj.1 e
      subst this; rfl
  rw [hx, h2]
theorem u8_sub {r : Nat} (h : r < 2) : wrapA .u8 (((bb r).toNat : Int) - 48) = (r : Int) := by
  rw [bb_nat h, show (((48 + r : Nat) : Int) - 48) = ((r : Nat) : Int) by omega]
  exact w_wrap .u8 (by simp only [topOf]; omega)
theorem u8_conv {r : Nat} (h : r < 2) (σ : St) : convA TT σ 5 2 (.int .u8 (r : Int)) = some (.int .i64 (r : Int), σ) := by
  have := n_wrap (a := r) (by omega)
  simp [convA, ty5, ty2, this]
theorem toNat_lt (b : Bool) : b.toNat < 2 := by cases b <;> decide
theorem ofB_62 {f : Nat → Bool} {k : Nat} (h : k ≤ 40) : ofB k f ≤ 1099511627776 := Nat.le_of_lt (Nat.lt_of_lt_of_le (ofB_lt f k) (Nat.pow_le_pow_right (by decide) h))
theorem pw_40 {k : Nat} (h : k ≤ 40) : 2 ^ k ≤ 1099511627776 := Nat.pow_le_pow_right (by decide) h
theorem add_len {w : Nat} {rows rows' : List Nat} {r : Nat} (h : add w rows r = some rows') : rows'.length ≤ rows.length + 1 := by
  rw [add_eq] at h
  split at h
  · split at h
    · cases h; omega
    · cases h
  · cases h; simp

noncomputable def b118 : Code := Tryd.f118.body.getD .skip
noncomputable def B118_0 : Code := (bodyC (bodyC (sndC (fstC (sndC (sndC b118))))))
noncomputable def K118_0 : List It := .lp B118_0 :: .blk 0 :: .code (sndC (sndC (sndC b118))) :: []
theorem xl118_0 {fi : FI} {env : Env} {σ : St} : exI TT fi K118_0 env σ = exI TT fi (.code B118_0 :: K118_0) env σ := by unfold K118_0; exact xI_lp
noncomputable def R118_0_0 : List It := .code (sndC (sndC (sndC b118))) :: []
theorem eK118_0_0 : exitA 0 K118_0 = some R118_0_0 := rfl
noncomputable def B118_1 : Code := (bodyC (bodyC (sndC (fstC (sndC (bodyC (fstC (sndC (bodyC (bodyC (sndC (fstC (sndC (sndC b118))))))))))))))
noncomputable def K118_1 : List It := .lp B118_1 :: .blk 2 :: .code (sndC (sndC (bodyC (fstC (sndC (bodyC (bodyC (sndC (fstC (sndC (sndC b118))))))))))) :: .blk 1 :: .code (sndC (sndC (bodyC (bodyC (sndC (fstC (sndC (sndC b118)))))))) :: K118_0
theorem xl118_1 {fi : FI} {env : Env} {σ : St} : exI TT fi K118_1 env σ = exI TT fi (.code B118_1 :: K118_1) env σ := by unfold K118_1; exact xI_lp
noncomputable def R118_1_2 : List It := .code (sndC (sndC (bodyC (fstC (sndC (bodyC (bodyC (sndC (fstC (sndC (sndC b118))))))))))) :: .blk 1 :: .code (sndC (sndC (bodyC (bodyC (sndC (fstC (sndC (sndC b118)))))))) :: K118_0
theorem eK118_1_2 : exitA 2 K118_1 = some R118_1_2 := rfl
noncomputable def R118_1_1 : List It := .code (sndC (sndC (bodyC (bodyC (sndC (fstC (sndC (sndC b118)))))))) :: K118_0
theorem eK118_1_1 : exitA 1 K118_1 = some R118_1_1 := rfl
theorem eK118_1_0 : exitA 0 K118_1 = some R118_0_0 := rfl
set_option maxHeartbeats 1000000 in
theorem i118 (l : List UInt8) (hl : l.length ≤ 32) (hb : l.all isBit = true) (w t e : Nat) (hw : t + w ≤ l.length) (σ : St) : ∀ m k : Nat, k + m = w →
    exI TT (FI.of Tryd.f118 (TT.an 118)) K118_1 [(0, .str l), (1, .int .i64 w), (6, .ptr e 0), (7, .int .i64 t), (8, .int .i64 (ofB k (fun i => bitf l (t + i)) : Nat)), (21, .int .i64 w), (22, .int .i64 k)] σ = exI TT (FI.of Tryd.f118 (TT.an 118)) K118_1 [(0, .str l), (1, .int .i64 w), (6, .ptr e 0), (7, .int .i64 t), (8, .int .i64 (ofB w (fun i => bitf l (t + i)) : Nat)), (21, .int .i64 w), (22, .int .i64 w)] σ := by
  intro m
  induction m with
  | zero =>
    intro k hk
    obtain rfl : k = w := by omega
    rfl
  | succ m ih =>
    intro k hk
    have h1 := ih (k + 1) (by omega)
    rw [← h1]
    clear h1 ih
    have hlt0 : t + k < l.length := by omega
    have hbg := bit_get hb (i := t + k) hlt0
    have hb2 := toNat_lt (bitf l (t + k))
    have hus := u8_sub hb2
    have huc : ∀ σ, convA TT σ 5 2 (.int .u8 (((bitf l (t + k)).toNat : Nat) : Int)) = some (.int .i64 (((bitf l (t + k)).toNat : Nat) : Int), σ) := u8_conv hb2
    have hp40 := pw_40 (k := k) (by omega)
    have hm40 : (bitf l (t + k)).toNat * 2 ^ k ≤ 1 * 2 ^ k := Nat.mul_le_mul_right _ (by omega)
    have hsl := sh_l (a := (bitf l (t + k)).toNat) (b := k) (by omega) (by omega)
    have ho40 := ofB_62 (f := fun i => bitf l (t + i)) (k := k) (by omega)
    have hor := n_or (a := ofB k (fun i => bitf l (t + i))) (b := shlN (bitf l (t + k)).toNat k) (by omega) (by show (bitf l (t + k)).toNat * 2 ^ k ≤ _; omega)
    rw [show orN (ofB k (fun i => bitf l (t + i))) (shlN (bitf l (t + k)).toNat k) = ofB (k + 1) (fun i => bitf l (t + i)) from rfl] at hor
    have hlt : (k : Int) < (w : Int) := by omega
    have hnle : ¬ w ≤ k := by omega
    have hwk := wrapS (n := k) (by omega)
    have hwt : wrapA .i64 ((t : Int) + (k : Int)) = ((t + k : Nat) : Int) := by rw [wrapA_id (by omega) (by omega)]; omega
    have hneg : ¬ (k : Int) < 0 := by omega
    have hi1 : ((k + 1 : Nat) : Int) = (k : Int) + 1 := by omega
    rw [hi1]
    generalize ofB (k + 1) (fun i => bitf l (t + i)) = z at *
    generalize ofB k (fun i => bitf l (t + i)) = y at *
    generalize (bitf l (t + k)).toNat = r at *
    generalize t + k = tk at *
    conv => lhs; rw [fi118, xl118_1]; simp only [B118_1, b118, Tryd.f118, Option.getD, fstC, sndC, bodyC, thnC, elsC]
    rw [fi118]
    simp [xI_seq, xI_region, xI_ret, regA, regOps, runOps, opStep, wantedA, opA, evo, evos, calleeA, lk, nif_eq, putE, paramsE, valS, val2, keepE, restrict, finA, resA, binA, binInt, ofConst, ofConst1, loadA, TK.isAgg, asVar, unA, builtinA, lenOpA, lenA, ileb_cast, ileb_eq, ieqb_dec, indexAddrA, inB_dec, evPairs, storeA, AV.cellsOf, pairsOf, xI_nil, binBool, gcE, evOpt, tagZ, xI_block, xI_loopH, xI_condM, xI_exitM, xI_skip, xI_blk, exitA, ty2, ty3, ty4, ty5, ty9, ty180, eK118_0_0, eK118_1_2, eK118_1_1, eK118_1_0, runTr, pairsOk, pairOk, lstAt, lastOf, sameVal, AV.eqv, eqvs, eqvs_ints, regOps, blt_dec, cond_true, cond_false, fieldAddrA, allOne, AV.one, n_push, ty2, ty9, ty5, ty3, ty24, ty36, indexA, hbg, hus, huc, hsl, hor, hlt, hnle, hwk, hwt, hneg]
/-- What taps there are. -/
def tapO (w : Nat) : Option (List Nat) → AV
  | none => .tup [.int .i64 0, .bool false]
  | some R => .tup [.int .i64 (least w R : Nat), .bool true]
set_option maxHeartbeats 2000000 in
theorem l118 (l : List UInt8) (hl : l.length ≤ 32) (hb : l.all isBit = true) (w e lo : Nat) (hw : w ≤ l.length) : ∀ (m t : Nat) (rows : List Nat) (v : AV) (σ : St), t + m + w = l.length → rows.length ≤ t → Red w rows → ES σ e lo w rows v →
    ∃ σ', exI TT (FI.of Tryd.f118 (TT.an 118)) K118_0 [(0, .str l), (1, .int .i64 w), (6, .ptr e 0), (7, .int .i64 t)] σ = some (tapO w (addAll w rows (eqsF (bitf l) w t m)), σ') := by
  intro m
  induction m with
  | zero =>
    intro t rows v σ ht hrl hred hE
    have hwt : wrapA .i64 ((t : Int) + (w : Int)) = (l.length : Int) := by rw [wrapA_id (by omega) (by omega)]; omega
    have hls := c157 w (by omega) σ e lo rows v hE hred.ok (by omega)
    refine ⟨σ, ?_⟩
    simp only [eqsF, addAll, tapO]
    rw [fi118]
    rw [xl118_0]
    simp only [B118_0, b118, Tryd.f118, Option.getD, fstC, sndC, bodyC, thnC, elsC]
    simp [xI_seq, xI_region, xI_ret, regA, regOps, runOps, opStep, wantedA, opA, evo, evos, calleeA, lk, nif_eq, putE, paramsE, valS, val2, keepE, restrict, finA, resA, binA, binInt, ofConst, ofConst1, loadA, TK.isAgg, asVar, unA, builtinA, lenOpA, lenA, ileb_cast, ileb_eq, ieqb_dec, indexAddrA, inB_dec, evPairs, storeA, AV.cellsOf, pairsOf, xI_nil, binBool, gcE, evOpt, tagZ, xI_block, xI_loopH, xI_condM, xI_exitM, xI_skip, xI_blk, exitA, ty2, ty3, ty4, ty5, ty9, ty180, eK118_0_0, eK118_1_2, eK118_1_1, eK118_1_0, runTr, pairsOk, pairOk, lstAt, lastOf, sameVal, AV.eqv, eqvs, eqvs_ints, regOps, blt_dec, cond_true, cond_false, fieldAddrA, allOne, AV.one, n_push, ty2, ty9, ty5, ty3, ty24, ty36, indexA, hwt]
    simp only [R118_0_0, b118, Tryd.f118, Option.getD, fstC, sndC, bodyC, thnC, elsC]
    simp [xI_seq, xI_region, xI_ret, regA, regOps, runOps, opStep, wantedA, opA, evo, evos, calleeA, lk, nif_eq, putE, paramsE, valS, val2, keepE, restrict, finA, resA, binA, binInt, ofConst, ofConst1, loadA, TK.isAgg, asVar, unA, builtinA, lenOpA, lenA, ileb_cast, ileb_eq, ieqb_dec, indexAddrA, inB_dec, evPairs, storeA, AV.cellsOf, pairsOf, xI_nil, binBool, gcE, evOpt, tagZ, xI_block, xI_loopH, xI_condM, xI_exitM, xI_skip, xI_blk, exitA, ty2, ty3, ty4, ty5, ty9, ty180, eK118_0_0, eK118_1_2, eK118_1_1, eK118_1_0, runTr, pairsOk, pairOk, lstAt, lastOf, sameVal, AV.eqv, eqvs, eqvs_ints, regOps, blt_dec, cond_true, cond_false, fieldAddrA, allOne, AV.one, n_push, ty2, ty9, ty5, ty3, ty24, ty36, indexA, hls]
  | succ m ih =>
    intro t rows v σ ht hrl hred hE
    have h0 := i118 l hl hb w t e (by omega) σ w 0 (by omega)
    have hlt0 : t + w < l.length := by omega
    have hbg := bit_get hb (i := t + w) hlt0
    have hb2 := toNat_lt (bitf l (t + w))
    have hus := u8_sub hb2
    have huc : ∀ σ, convA TT σ 5 2 (.int .u8 (((bitf l (t + w)).toNat : Nat) : Int)) = some (.int .i64 (((bitf l (t + w)).toNat : Nat) : Int), σ) := u8_conv hb2
    have hp40 := pw_40 (k := w) (by omega)
    have hm40 : (bitf l (t + w)).toNat * 2 ^ w ≤ 1 * 2 ^ w := Nat.mul_le_mul_right _ (by omega)
    have hsl := sh_l (a := (bitf l (t + w)).toNat) (b := w) (by omega) (by omega)
    have hwt : wrapA .i64 ((t : Int) + (w : Int)) = ((t + w : Nat) : Int) := by rw [wrapA_id (by omega) (by omega)]; omega
    have hwn := wrapS (n := t) (by omega)
    have hlt1 : ((t + w : Nat) : Int) < (l.length : Int) := by omega
    have hlt2 : ¬ l.length ≤ t + w := by omega
    have hol := ofB_lt (fun i => bitf l (t + i)) w
    have heq : eqn w (ofB w (fun i => bitf l (t + i))) (bitf l (t + w)).toNat = ofB (w + 1) (fun i => bitf l (t + i)) := rfl
    have hel : ofB (w + 1) (fun i => bitf l (t + i)) < 2 ^ (w + 1) := ofB_lt _ _
    simp only [ofB, show ((0 : Nat) : Int) = 0 from rfl, Int.natCast_zero] at h0
    rw [show eqsF (bitf l) w t (m + 1) = ofB (w + 1) (fun i => bitf l (t + i)) :: eqsF (bitf l) w (t + 1) m from rfl, addAll]
    cases ha : add w rows (ofB (w + 1) (fun i => bitf l (t + i))) with
    | none =>
      have hA := c156n w (by omega) e lo rows v σ hE hred.ok (by omega) (ofB w (fun i => bitf l (t + i))) (bitf l (t + w)).toNat hol (by omega) (by rw [heq]; exact ha)
      refine ⟨σ, ?_⟩
      simp only [tapO]
      clear ih hE
      generalize ofB w (fun i => bitf l (t + i)) = y at *
      generalize (bitf l (t + w)).toNat = r at *
      generalize t + w = tw at *
      rw [fi118] at h0 ⊢
      rw [xl118_0]
      simp only [B118_0, b118, Tryd.f118, Option.getD, fstC, sndC, bodyC, thnC, elsC]
      simp [xI_seq, xI_region, xI_ret, regA, regOps, runOps, opStep, wantedA, opA, evo, evos, calleeA, lk, nif_eq, putE, paramsE, valS, val2, keepE, restrict, finA, resA, binA, binInt, ofConst, ofConst1, loadA, TK.isAgg, asVar, unA, builtinA, lenOpA, lenA, ileb_cast, ileb_eq, ieqb_dec, indexAddrA, inB_dec, evPairs, storeA, AV.cellsOf, pairsOf, xI_nil, binBool, gcE, evOpt, tagZ, xI_block, xI_loopH, xI_condM, xI_exitM, xI_skip, xI_blk, exitA, ty2, ty3, ty4, ty5, ty9, ty180, eK118_0_0, eK118_1_2, eK118_1_1, eK118_1_0, runTr, pairsOk, pairOk, lstAt, lastOf, sameVal, AV.eqv, eqvs, eqvs_ints, regOps, blt_dec, cond_true, cond_false, fieldAddrA, allOne, AV.one, n_push, ty2, ty9, ty5, ty3, ty24, ty36, indexA, hwt, hlt1, hlt2]
      refine h0.trans ?_
      rw [xl118_1]
      simp only [B118_1, b118, Tryd.f118, Option.getD, fstC, sndC, bodyC, thnC, elsC]
      simp [xI_seq, xI_region, xI_ret, regA, regOps, runOps, opStep, wantedA, opA, evo, evos, calleeA, lk, nif_eq, putE, paramsE, valS, val2, keepE, restrict, finA, resA, binA, binInt, ofConst, ofConst1, loadA, TK.isAgg, asVar, unA, builtinA, lenOpA, lenA, ileb_cast, ileb_eq, ieqb_dec, indexAddrA, inB_dec, evPairs, storeA, AV.cellsOf, pairsOf, xI_nil, binBool, gcE, evOpt, tagZ, xI_block, xI_loopH, xI_condM, xI_exitM, xI_skip, xI_blk, exitA, ty2, ty3, ty4, ty5, ty9, ty180, eK118_0_0, eK118_1_2, eK118_1_1, eK118_1_0, runTr, pairsOk, pairOk, lstAt, lastOf, sameVal, AV.eqv, eqvs, eqvs_ints, regOps, blt_dec, cond_true, cond_false, fieldAddrA, allOne, AV.one, n_push, ty2, ty9, ty5, ty3, ty24, ty36, indexA]
      simp only [R118_1_2, b118, Tryd.f118, Option.getD, fstC, sndC, bodyC, thnC, elsC]
      simp [xI_seq, xI_region, xI_ret, regA, regOps, runOps, opStep, wantedA, opA, evo, evos, calleeA, lk, nif_eq, putE, paramsE, valS, val2, keepE, restrict, finA, resA, binA, binInt, ofConst, ofConst1, loadA, TK.isAgg, asVar, unA, builtinA, lenOpA, lenA, ileb_cast, ileb_eq, ieqb_dec, indexAddrA, inB_dec, evPairs, storeA, AV.cellsOf, pairsOf, xI_nil, binBool, gcE, evOpt, tagZ, xI_block, xI_loopH, xI_condM, xI_exitM, xI_skip, xI_blk, exitA, ty2, ty3, ty4, ty5, ty9, ty180, eK118_0_0, eK118_1_2, eK118_1_1, eK118_1_0, runTr, pairsOk, pairOk, lstAt, lastOf, sameVal, AV.eqv, eqvs, eqvs_ints, regOps, blt_dec, cond_true, cond_false, fieldAddrA, allOne, AV.one, n_push, ty2, ty9, ty5, ty3, ty24, ty36, indexA, hbg, hus, huc, hwt, hA]
    | some rows' =>
      obtain ⟨σ1, v1, hA, hE1, hn1, ho1⟩ := c156y w (by omega) e lo rows rows' v σ hE hred.ok (by omega) (ofB w (fun i => bitf l (t + i))) (bitf l (t + w)).toNat hol (by omega) (by rw [heq]; exact ha)
      have hred1 := (addAll_some [ofB (w + 1) (fun i => bitf l (t + i))] rows rows' hred (by simpa using hel) (by simp [addAll, ha])).1
      obtain ⟨σ', h1⟩ := ih (t + 1) rows' v1 σ1 (by omega) (by have := add_len ha; omega) hred1 hE1
      refine ⟨σ', ?_⟩
      rw [← h1]
      clear h1 ih hE hE1
      have hi1 : ((t + 1 : Nat) : Int) = (t : Int) + 1 := by omega
      rw [hi1]
      generalize ofB w (fun i => bitf l (t + i)) = y at *
      generalize (bitf l (t + w)).toNat = r at *
      generalize t + w = tw at *
      conv => lhs; rw [fi118, xl118_0]; simp only [B118_0, b118, Tryd.f118, Option.getD, fstC, sndC, bodyC, thnC, elsC]
      rw [fi118] at h0 ⊢
      simp [xI_seq, xI_region, xI_ret, regA, regOps, runOps, opStep, wantedA, opA, evo, evos, calleeA, lk, nif_eq, putE, paramsE, valS, val2, keepE, restrict, finA, resA, binA, binInt, ofConst, ofConst1, loadA, TK.isAgg, asVar, unA, builtinA, lenOpA, lenA, ileb_cast, ileb_eq, ieqb_dec, indexAddrA, inB_dec, evPairs, storeA, AV.cellsOf, pairsOf, xI_nil, binBool, gcE, evOpt, tagZ, xI_block, xI_loopH, xI_condM, xI_exitM, xI_skip, xI_blk, exitA, ty2, ty3, ty4, ty5, ty9, ty180, eK118_0_0, eK118_1_2, eK118_1_1, eK118_1_0, runTr, pairsOk, pairOk, lstAt, lastOf, sameVal, AV.eqv, eqvs, eqvs_ints, regOps, blt_dec, cond_true, cond_false, fieldAddrA, allOne, AV.one, n_push, ty2, ty9, ty5, ty3, ty24, ty36, indexA, hwt, hlt1, hlt2]
      refine h0.trans ?_
      conv => lhs; rw [xl118_1]; simp only [B118_1, b118, Tryd.f118, Option.getD, fstC, sndC, bodyC, thnC, elsC]
      simp [xI_seq, xI_region, xI_ret, regA, regOps, runOps, opStep, wantedA, opA, evo, evos, calleeA, lk, nif_eq, putE, paramsE, valS, val2, keepE, restrict, finA, resA, binA, binInt, ofConst, ofConst1, loadA, TK.isAgg, asVar, unA, builtinA, lenOpA, lenA, ileb_cast, ileb_eq, ieqb_dec, indexAddrA, inB_dec, evPairs, storeA, AV.cellsOf, pairsOf, xI_nil, binBool, gcE, evOpt, tagZ, xI_block, xI_loopH, xI_condM, xI_exitM, xI_skip, xI_blk, exitA, ty2, ty3, ty4, ty5, ty9, ty180, eK118_0_0, eK118_1_2, eK118_1_1, eK118_1_0, runTr, pairsOk, pairOk, lstAt, lastOf, sameVal, AV.eqv, eqvs, eqvs_ints, regOps, blt_dec, cond_true, cond_false, fieldAddrA, allOne, AV.one, n_push, ty2, ty9, ty5, ty3, ty24, ty36, indexA]
      simp only [R118_1_2, b118, Tryd.f118, Option.getD, fstC, sndC, bodyC, thnC, elsC]
      simp [xI_seq, xI_region, xI_ret, regA, regOps, runOps, opStep, wantedA, opA, evo, evos, calleeA, lk, nif_eq, putE, paramsE, valS, val2, keepE, restrict, finA, resA, binA, binInt, ofConst, ofConst1, loadA, TK.isAgg, asVar, unA, builtinA, lenOpA, lenA, ileb_cast, ileb_eq, ieqb_dec, indexAddrA, inB_dec, evPairs, storeA, AV.cellsOf, pairsOf, xI_nil, binBool, gcE, evOpt, tagZ, xI_block, xI_loopH, xI_condM, xI_exitM, xI_skip, xI_blk, exitA, ty2, ty3, ty4, ty5, ty9, ty180, eK118_0_0, eK118_1_2, eK118_1_1, eK118_1_0, runTr, pairsOk, pairOk, lstAt, lastOf, sameVal, AV.eqv, eqvs, eqvs_ints, regOps, blt_dec, cond_true, cond_false, fieldAddrA, allOne, AV.one, n_push, ty2, ty9, ty5, ty3, ty24, ty36, indexA, hbg, hus, huc, hwt, hA, hwn]
theorem v118 (l : List UInt8) (hl : l.length ≤ 32) (hb : l.all isBit = true) (w : Nat) (hw : w ≤ l.length) : FnV TT 118 [.str l, .int .i64 w] (tapO w (addAll w [] (eqsF (bitf l) w 0 (l.length - w)))) := by
  obtain ⟨σ, hσ⟩ : ∃ σ, (⟨[], 0⟩ : St).push ⟨[.int .i64 w, .nilS], 2, false⟩ = σ := ⟨_, rfl⟩
  have hE : ES σ 0 1 w [] .nilS := ⟨by subst hσ; exact Nat.succ_pos _, by subst hσ; exact Nat.le_refl _, by subst hσ; rfl, Or.inl ⟨rfl, rfl⟩⟩
  obtain ⟨σ', h⟩ := l118 l hl hb w 0 1 hw (l.length - w) 0 [] .nilS σ (by omega) (Nat.le_refl _) (red_nil w) hE
  simp only [show ((0 : Nat) : Int) = 0 from rfl, Int.natCast_zero] at h
  have hsc : ∀ o : Option (List Nat), ∀ σ : St, frzV σ frzDepth (tapO w o) = some (tapO w o) := by intro o σ; cases o <;> rfl
  have hsd : ∀ o : Option (List Nat), (tapO w o).scal = true := by intro o; cases o <;> rfl
  refine FnV.mk fn118 rfl md118 ⟨σ', ?_⟩ (fun σ => hsc _ σ) (hsd _)
  rw [← h, fi118]
  simp [xI_seq, xI_region, xI_ret, regA, regOps, runOps, opStep, wantedA, opA, evo, evos, calleeA, lk, nif_eq, putE, paramsE, valS, val2, keepE, restrict, finA, resA, binA, binInt, ofConst, ofConst1, loadA, TK.isAgg, asVar, unA, builtinA, lenOpA, lenA, ileb_cast, ileb_eq, ieqb_dec, indexAddrA, inB_dec, evPairs, storeA, AV.cellsOf, pairsOf, xI_nil, binBool, gcE, evOpt, tagZ, xI_block, xI_loopH, xI_condM, xI_exitM, xI_skip, xI_blk, exitA, ty2, ty3, ty4, ty5, ty9, ty180, eK118_0_0, eK118_1_2, eK118_1_1, eK118_1_0, runTr, pairsOk, pairOk, lstAt, lastOf, sameVal, AV.eqv, eqvs, eqvs_ints, regOps, blt_dec, cond_true, cond_false, fieldAddrA, allOne, AV.one, n_push, ty2, ty9, ty5, ty3, ty24, ty36, indexA, ty180, buildA, sizesOf, fillA, putCells, hσ]
  rfl

open Go.Wd
open Go.Wd
def RGB (σ : St) (D : Nat) (a b : Int) : Prop := σ.get D = some ⟨[.int .i64 a, .int .i64 b], 2, false⟩
theorem RGB.keep {σ σ' : St} {D : Nat} {a b : Int} (h : RGB σ D a b) (e : σ'.get D = σ.get D) : RGB σ' D a b := by unfold RGB; rw [e]; exact h
theorem RGB.cc {σ : St} {D : Nat} {a b : Int} (h : RGB σ D a b) : cellsAt σ (.ptr D 0) 2 = some [.int .i64 a, .int .i64 b] := by simp [cellsAt, (show σ.get D = _ from h), getCells, takeN, dropN]
theorem RGB.s2 {σ : St} {D : Nat} {a b : Int} (h : RGB σ D a b) (x y : Int) : ∃ σ', storeCellsA σ D 0 [.int .i64 x, .int .i64 y] = some σ' ∧ RGB σ' D x y ∧ σ'.n = σ.n ∧ ∀ d, d ≠ D → σ'.get d = σ.get d := by
  refine ⟨σ.set D ⟨[.int .i64 x, .int .i64 y], 2, false⟩, ?_, get_set_eq h, rfl, fun d hd => get_set_ne (fun e => hd e.symm)⟩
  simp [storeCellsA, (show σ.get D = _ from h), putN, overN, allOne, AV.one]

open Go.Wd
/-- A value that shows a list of numbers. -/
def IsL (σ : St) (v : AV) (l : List Int) : Prop := v = .lst l.length (ints l) ∨ ∃ b, v = .sl b 0 l.length l.length ∧ Row σ b l
theorem IsL.frz {σ : St} {v : AV} {l : List Int} {d : Nat} (h : IsL σ v l) : frzV σ (d + 2) v = some (.lst l.length (ints l)) := by
  rcases h with rfl | ⟨b, rfl, h⟩
  · rfl
  · exact h.frz rfl (Nat.le_refl _)
theorem IsL.old {σ σ' : St} {v : AV} {l : List Int} (h : IsL σ v l) (k : Old σ σ') : IsL σ' v l := by
  rcases h with rfl | ⟨b, rfl, h⟩
  · exact .inl rfl
  · exact .inr ⟨b, rfl, h.old k⟩
theorem IsL.of_row {σ : St} {b n : Nat} {l : List Int} (h : Row σ b l) (hn : n = l.length) : IsL σ (.sl b 0 n n) l := by subst hn; exact .inr ⟨b, rfl, h⟩
/-- The bit that is tried. -/
def cI : Nat → Int
  | 0 => -1
  | k + 1 => k
theorem cI_wrap (k : Nat) (hk : k ≤ 100) : wrapA .i64 ((k : Int) - 1) = cI k := by
  rw [wrapA_id (by omega) (by omega)]
  cases k with
  | zero => rfl
  | succ k => show ((k + 1 : Nat) : Int) - 1 = (k : Int); omega
theorem own_row (σ : St) (V : AV) (es : List Nat) (hl : es.length ≤ 1000000) (hV : IsL σ V (nints es)) : ∃ σ', callI TT 159 [V] σ = some (.sl σ.n 0 es.length es.length, σ') ∧ Row σ' σ.n (nints es) ∧ Old σ σ' ∧ σ'.n = σ.n + 1 := by
  have hO := s159 (nints es) (by rw [nints_length]; exact hl)
  obtain ⟨q, h⟩ := hO σ [V] (mapO_cons (hV.frz (d := 4)) rfl)
  rw [nints_length] at h
  exact ⟨_, h, Row.push, Old.push, rfl⟩
theorem isl_keep {σ σ' : St} {V : AV} {l : List Int} (h : IsL σ V l) (hn : σ.n ≤ σ'.n) (hk : ∀ c, c < σ.n → σ'.get c = σ.get c) : IsL σ' V l := h.old ⟨hn, hk⟩
theorem row_frz {σ : St} {b : Nat} {l : List Nat} (h : Row σ b (nints l)) (x : AV) (hx : x.scal = true) (hfx : frzV σ frzDepth x = some x) : mapO (frzV σ frzDepth) [.sl b 0 l.length l.length, x] = some [.lst l.length (ints (nints l)), x] :=
  mapO_cons (h.frz (d := 4) (nints_length l).symm (Nat.le_refl _)) (mapO_cons hfx rfl)

noncomputable def bmL (l : List UInt8) : Nat := Classical.choose (BM.ex (bitf l) l.length)
theorem bmL_lst (l : List UInt8) : Lst (bmL l) (bitf l) l.length := (Classical.choose_spec (BM.ex (bitf l) l.length)).lst
theorem bmL_le (l : List UInt8) : bmL l ≤ l.length := (bmL_lst l).le (d := bitf l) (Gen.far (Nat.le_refl _))
/-- The equations of a text. -/
def eqL (l : List UInt8) (w : Nat) : List Nat := eqsF (bitf l) w 0 (l.length - w)
theorem eqL_len (l : List UInt8) (w : Nat) : (eqL l w).length = l.length - w := eqsF_len
theorem eqL_lt {l : List UInt8} {w : Nat} : ∀ e ∈ eqL l w, e < 2 ^ (w + 1) := eqsF_lt
theorem eqL_can {l : List UInt8} {w : Nat} (hw : w < 64) : can w (eqL l w) = true ↔ ∃ c, Gen w c (bitf l) l.length := can_gen hw
theorem adN {l : List UInt8} {w : Nat} (hw : w < bmL l) (h64 : w < 64) : addAll w [] (eqL l w) = none := by
  have h := can_addAll h64 (es := eqL l w) eqL_lt
  cases ha : addAll w [] (eqL l w) with
  | none => rfl
  | some R => rw [ha] at h; exact absurd ((eqL_can h64).1 h) ((bmL_lst l).2 w hw)
theorem adY {l : List UInt8} (h64 : bmL l < 64) : ∃ R, addAll (bmL l) [] (eqL l (bmL l)) = some R := by
  have h := can_addAll h64 (es := eqL l (bmL l)) eqL_lt
  rw [(eqL_can h64).2 (bmL_lst l).1] at h
  cases ha : addAll (bmL l) [] (eqL l (bmL l)) with
  | none => rw [ha] at h; cases h
  | some R => exact ⟨R, rfl⟩
theorem canN {l : List UInt8} {w : Nat} (hw : w < bmL l) (h64 : w < 64) : can w (eqL l w) = false := by
  rw [can_addAll h64 eqL_lt, adN hw h64]; rfl
theorem canY {l : List UInt8} (h64 : bmL l < 64) : can (bmL l) (eqL l (bmL l)) = true := (eqL_can h64).2 (bmL_lst l).1
/-- The least taps of the least width. -/
noncomputable def bmT (l : List UInt8) : Nat := greedyL (bmL l) (bmL l) (eqL l (bmL l)) 0
theorem bmT_eq {l : List UInt8} (h64 : bmL l < 64) {R : List Nat} (h : addAll (bmL l) [] (eqL l (bmL l)) = some R) : least (bmL l) R = bmT l := (greedyL_least h64 eqL_lt h).symm
def srOk (l : List UInt8) : Bool := isBits l && decide (l.length ≤ 32)
theorem srOk_of {l : List UInt8} (h : srOk l = true) : l.all isBit = true ∧ l.length ≤ 32 := by
  simp only [srOk, isBits, Bool.and_eq_true, decide_eq_true_eq] at h
  exact ⟨h.1.2, h.2⟩
/-- What is told of a text. -/
noncomputable def srV (l : List UInt8) : AV :=
  if srOk l = true ∧ bmL l ≤ 16 then .tup [.agg [.int .i64 (bmL l), .int .i64 (bmT l)], .int .i64 (ofB (bmL l) (bitf l) : Nat), .bool true] else .tup [.agg [.int .i64 0, .int .i64 0], .int .i64 0, .bool false]
theorem srV_frz (l : List UInt8) (σ : St) : frzV σ frzDepth (srV l) = some (srV l) := by
  unfold srV; split <;> rfl
theorem srV_scal (l : List UInt8) : (srV l).scal = true := by
  unfold srV; split <;> rfl

noncomputable def b72 : Code := Tryd.f72.body.getD .skip
noncomputable def B72_0 : Code := (bodyC (bodyC (sndC (sndC b72))))
noncomputable def K72_0 : List It := .lp B72_0 :: .blk 0 :: []
theorem xl72_0 {fi : FI} {env : Env} {σ : St} : exI TT fi K72_0 env σ = exI TT fi (.code B72_0 :: K72_0) env σ := by unfold K72_0; exact xI_lp
noncomputable def R72_0_0 : List It := []
theorem eK72_0_0 : exitA 0 K72_0 = some R72_0_0 := rfl
theorem l72 (l : List UInt8) (hl : l.length ≤ 32) (hb : l.all isBit = true) (σ : St) : ∀ m k : Nat, k + m = bmL l →
    exI TT (FI.of Tryd.f72 (TT.an 72)) K72_0 [(0, .str l), (4, .int .i64 k)] σ = some (.tup [.int .i64 (bmL l), .int .i64 (bmT l)], σ) := by
  have hL := bmL_le l
  intro m
  induction m with
  | zero =>
    intro k hk
    obtain rfl : k = bmL l := by omega
    obtain ⟨R, hR⟩ := adY (l := l) (by omega)
    have hT := bmT_eq (by omega) hR
    have c1 := v118 l hl hb (bmL l) hL σ [.str l, .int .i64 (bmL l)] rfl
    rw [show eqsF (bitf l) (bmL l) 0 (l.length - bmL l) = eqL l (bmL l) from rfl, hR, tapO, hT] at c1
    rw [fi72]
    rw [xl72_0]
    simp only [B72_0, b72, Tryd.f72, Option.getD, fstC, sndC, bodyC, thnC, elsC]
    simp [xI_seq, xI_region, xI_ret, regA, regOps, runOps, opStep, wantedA, opA, evo, evos, calleeA, lk, nif_eq, putE, paramsE, valS, val2, keepE, restrict, finA, resA, binA, binInt, ofConst, ofConst1, loadA, TK.isAgg, asVar, unA, builtinA, lenOpA, lenA, ileb_cast, ileb_eq, ieqb_dec, indexAddrA, inB_dec, evPairs, storeA, AV.cellsOf, pairsOf, xI_nil, binBool, gcE, evOpt, tagZ, xI_block, xI_loopH, xI_condM, xI_exitM, xI_skip, xI_blk, exitA, ty3, eK72_0_0, runTr, pairsOk, pairOk, lstAt, lastOf, sameVal, AV.eqv, eqvs, eqvs_ints, regOps, blt_dec, cond_true, cond_false, fieldAddrA, allOne, AV.one, n_push, ty2, ty9, ty5, ty3, ty24, ty36, indexA, c1]
  | succ m ih =>
    intro k hk
    have h1 := ih (k + 1) (by omega)
    have hN := adN (l := l) (w := k) (by omega) (by omega)
    have c1 := v118 l hl hb k (by omega) σ [.str l, .int .i64 k] rfl
    rw [show eqsF (bitf l) k 0 (l.length - k) = eqL l k from rfl, hN, tapO] at c1
    have hw := wrapS (n := k) (by omega)
    rw [fi72] at h1 ⊢
    rw [xl72_0]
    simp only [B72_0, b72, Tryd.f72, Option.getD, fstC, sndC, bodyC, thnC, elsC]
    simp [xI_seq, xI_region, xI_ret, regA, regOps, runOps, opStep, wantedA, opA, evo, evos, calleeA, lk, nif_eq, putE, paramsE, valS, val2, keepE, restrict, finA, resA, binA, binInt, ofConst, ofConst1, loadA, TK.isAgg, asVar, unA, builtinA, lenOpA, lenA, ileb_cast, ileb_eq, ieqb_dec, indexAddrA, inB_dec, evPairs, storeA, AV.cellsOf, pairsOf, xI_nil, binBool, gcE, evOpt, tagZ, xI_block, xI_loopH, xI_condM, xI_exitM, xI_skip, xI_blk, exitA, ty3, eK72_0_0, runTr, pairsOk, pairOk, lstAt, lastOf, sameVal, AV.eqv, eqvs, eqvs_ints, regOps, blt_dec, cond_true, cond_false, fieldAddrA, allOne, AV.one, n_push, ty2, ty9, ty5, ty3, ty24, ty36, indexA, c1, hw]
    simpa using h1
theorem v72 (l : List UInt8) (hl : l.length ≤ 32) (hb : l.all isBit = true) : FnV TT 72 [.str l] (.tup [.int .i64 (bmL l), .int .i64 (bmT l)]) := by
  refine FnV.mk fn72 rfl md72 ⟨⟨[], 0⟩, ?_⟩ (fun _ => rfl) rfl
  have h := l72 l hl hb ⟨[], 0⟩ (bmL l) 0 (by omega)
  simp only [show ((0 : Nat) : Int) = 0 from rfl, Int.natCast_zero] at h
  rw [← h, fi72]
  simp [xI_seq, xI_region, xI_ret, regA, regOps, runOps, opStep, wantedA, opA, evo, evos, calleeA, lk, nif_eq, putE, paramsE, valS, val2, keepE, restrict, finA, resA, binA, binInt, ofConst, ofConst1, loadA, TK.isAgg, asVar, unA, builtinA, lenOpA, lenA, ileb_cast, ileb_eq, ieqb_dec, indexAddrA, inB_dec, evPairs, storeA, AV.cellsOf, pairsOf, xI_nil, binBool, gcE, evOpt, tagZ, xI_block, xI_loopH, xI_condM, xI_exitM, xI_skip, xI_blk, exitA, ty3, eK72_0_0]
  rfl

theorem v71 (l : List UInt8) (hl : l.length < 1000000000) : FnV TT 71 [.str l] (.bool (srOk l)) := by
  refine FnV.mk fn71 rfl md71 ⟨⟨[], 0⟩, ?_⟩ (fun _ => rfl) rfl
  have c1 := v63 l (by omega) ⟨[], 0⟩ [.str l] rfl
  rw [fi71, srOk]
  cases hb : isBits l with
  | false =>
    rw [hb] at c1
    simp [xI_seq, xI_region, xI_ret, regA, regOps, runOps, opStep, wantedA, opA, evo, evos, calleeA, lk, nif_eq, putE, paramsE, valS, val2, keepE, restrict, finA, resA, binA, binInt, ofConst, ofConst1, loadA, TK.isAgg, asVar, unA, builtinA, lenOpA, lenA, ileb_cast, ileb_eq, ieqb_dec, indexAddrA, inB_dec, evPairs, storeA, AV.cellsOf, pairsOf, xI_nil, binBool, gcE, evOpt, tagZ, xI_block, xI_loopH, xI_condM, xI_exitM, xI_skip, xI_blk, exitA, ty3, runTr, pairsOk, pairOk, lstAt, lastOf, sameVal, AV.eqv, eqvs, eqvs_ints, regOps, blt_dec, cond_true, cond_false, fieldAddrA, allOne, AV.one, n_push, ty2, ty9, ty5, ty3, ty24, ty36, indexA, c1]
  | true =>
    rw [hb] at c1
    by_cases h : l.length ≤ 32
    · have h' : (l.length : Int) ≤ 32 := by omega
      simp [xI_seq, xI_region, xI_ret, regA, regOps, runOps, opStep, wantedA, opA, evo, evos, calleeA, lk, nif_eq, putE, paramsE, valS, val2, keepE, restrict, finA, resA, binA, binInt, ofConst, ofConst1, loadA, TK.isAgg, asVar, unA, builtinA, lenOpA, lenA, ileb_cast, ileb_eq, ieqb_dec, indexAddrA, inB_dec, evPairs, storeA, AV.cellsOf, pairsOf, xI_nil, binBool, gcE, evOpt, tagZ, xI_block, xI_loopH, xI_condM, xI_exitM, xI_skip, xI_blk, exitA, ty3, runTr, pairsOk, pairOk, lstAt, lastOf, sameVal, AV.eqv, eqvs, eqvs_ints, regOps, blt_dec, cond_true, cond_false, fieldAddrA, allOne, AV.one, n_push, ty2, ty9, ty5, ty3, ty24, ty36, indexA, c1, h, h']
    · have h' : ¬ (l.length : Int) ≤ 32 := by omega
      simp [xI_seq, xI_region, xI_ret, regA, regOps, runOps, opStep, wantedA, opA, evo, evos, calleeA, lk, nif_eq, putE, paramsE, valS, val2, keepE, restrict, finA, resA, binA, binInt, ofConst, ofConst1, loadA, TK.isAgg, asVar, unA, builtinA, lenOpA, lenA, ileb_cast, ileb_eq, ieqb_dec, indexAddrA, inB_dec, evPairs, storeA, AV.cellsOf, pairsOf, xI_nil, binBool, gcE, evOpt, tagZ, xI_block, xI_loopH, xI_condM, xI_exitM, xI_skip, xI_blk, exitA, ty3, runTr, pairsOk, pairOk, lstAt, lastOf, sameVal, AV.eqv, eqvs, eqvs_ints, regOps, blt_dec, cond_true, cond_false, fieldAddrA, allOne, AV.one, n_push, ty2, ty9, ty5, ty3, ty24, ty36, indexA, c1, h, h']

theorem v120 (l : List UInt8) (hl : l.length < 1000000000) : FnV TT 120 [.str l] (.bool (srOk l)) := by
  refine FnV.mk fn120 rfl md120 ⟨⟨[], 0⟩, ?_⟩ (fun _ => rfl) rfl
  have c1 := v60 l hl ⟨[], 0⟩ [.str l] rfl
  rw [fi120, srOk]
  cases hb : isBits l with
  | false =>
    rw [hb] at c1
    simp [xI_seq, xI_region, xI_ret, regA, regOps, runOps, opStep, wantedA, opA, evo, evos, calleeA, lk, nif_eq, putE, paramsE, valS, val2, keepE, restrict, finA, resA, binA, binInt, ofConst, ofConst1, loadA, TK.isAgg, asVar, unA, builtinA, lenOpA, lenA, ileb_cast, ileb_eq, ieqb_dec, indexAddrA, inB_dec, evPairs, storeA, AV.cellsOf, pairsOf, xI_nil, binBool, gcE, evOpt, tagZ, xI_block, xI_loopH, xI_condM, xI_exitM, xI_skip, xI_blk, exitA, ty3, runTr, pairsOk, pairOk, lstAt, lastOf, sameVal, AV.eqv, eqvs, eqvs_ints, regOps, blt_dec, cond_true, cond_false, fieldAddrA, allOne, AV.one, n_push, ty2, ty9, ty5, ty3, ty24, ty36, indexA, c1]
  | true =>
    rw [hb] at c1
    by_cases h : l.length ≤ 32
    · have h' : (l.length : Int) ≤ 32 := by omega
      simp [xI_seq, xI_region, xI_ret, regA, regOps, runOps, opStep, wantedA, opA, evo, evos, calleeA, lk, nif_eq, putE, paramsE, valS, val2, keepE, restrict, finA, resA, binA, binInt, ofConst, ofConst1, loadA, TK.isAgg, asVar, unA, builtinA, lenOpA, lenA, ileb_cast, ileb_eq, ieqb_dec, indexAddrA, inB_dec, evPairs, storeA, AV.cellsOf, pairsOf, xI_nil, binBool, gcE, evOpt, tagZ, xI_block, xI_loopH, xI_condM, xI_exitM, xI_skip, xI_blk, exitA, ty3, runTr, pairsOk, pairOk, lstAt, lastOf, sameVal, AV.eqv, eqvs, eqvs_ints, regOps, blt_dec, cond_true, cond_false, fieldAddrA, allOne, AV.one, n_push, ty2, ty9, ty5, ty3, ty24, ty36, indexA, c1, h, h']
    · have h' : ¬ (l.length : Int) ≤ 32 := by omega
      simp [xI_seq, xI_region, xI_ret, regA, regOps, runOps, opStep, wantedA, opA, evo, evos, calleeA, lk, nif_eq, putE, paramsE, valS, val2, keepE, restrict, finA, resA, binA, binInt, ofConst, ofConst1, loadA, TK.isAgg, asVar, unA, builtinA, lenOpA, lenA, ileb_cast, ileb_eq, ieqb_dec, indexAddrA, inB_dec, evPairs, storeA, AV.cellsOf, pairsOf, xI_nil, binBool, gcE, evOpt, tagZ, xI_block, xI_loopH, xI_condM, xI_exitM, xI_skip, xI_blk, exitA, ty3, runTr, pairsOk, pairOk, lstAt, lastOf, sameVal, AV.eqv, eqvs, eqvs_ints, regOps, blt_dec, cond_true, cond_false, fieldAddrA, allOne, AV.one, n_push, ty2, ty9, ty5, ty3, ty24, ty36, indexA, c1, h, h']

noncomputable def b26 : Code := Tryd.f26.body.getD .skip
noncomputable def B26_0 : Code := (bodyC (bodyC (sndC (fstC (sndC (sndC (sndC (sndC (sndC b26)))))))))
noncomputable def K26_0 : List It := .lp B26_0 :: .blk 0 :: .code (sndC (sndC (sndC (sndC (sndC (sndC b26)))))) :: []
theorem xl26_0 {fi : FI} {env : Env} {σ : St} : exI TT fi K26_0 env σ = exI TT fi (.code B26_0 :: K26_0) env σ := by unfold K26_0; exact xI_lp
noncomputable def R26_0_0 : List It := .code (sndC (sndC (sndC (sndC (sndC (sndC b26)))))) :: []
theorem eK26_0_0 : exitA 0 K26_0 = some R26_0_0 := rfl
set_option maxHeartbeats 1000000 in
theorem i26 (l : List UInt8) (hl : l.length ≤ 32) (hb : l.all isBit = true) (L T : Nat) (hL : L ≤ l.length) (σ : St) : ∀ m k : Nat, k + m = L →
    exI TT (FI.of Tryd.f26 (TT.an 26)) K26_0 [(0, .str l), (2, .ptr 0 0), (5, .int .i64 L), (6, .int .i64 T), (7, .int .i64 (ofB k (bitf l) : Nat)), (21, .int .i64 L), (22, .int .i64 k)] σ = exI TT (FI.of Tryd.f26 (TT.an 26)) K26_0 [(0, .str l), (2, .ptr 0 0), (5, .int .i64 L), (6, .int .i64 T), (7, .int .i64 (ofB L (bitf l) : Nat)), (21, .int .i64 L), (22, .int .i64 L)] σ := by
  intro m
  induction m with
  | zero =>
    intro k hk
    obtain rfl : k = L := by omega
    rfl
  | succ m ih =>
    intro k hk
    have h1 := ih (k + 1) (by omega)
    rw [← h1]
    clear h1 ih
    have hlt0 : k < l.length := by omega
    have hbg := bit_get hb (i := k) hlt0
    have hb2 := toNat_lt (bitf l (k))
    have hus := u8_sub hb2
    have huc : ∀ σ, convA TT σ 5 2 (.int .u8 (((bitf l (k)).toNat : Nat) : Int)) = some (.int .i64 (((bitf l (k)).toNat : Nat) : Int), σ) := u8_conv hb2
    have hp40 := pw_40 (k := k) (by omega)
    have hm40 : (bitf l (k)).toNat * 2 ^ k ≤ 1 * 2 ^ k := Nat.mul_le_mul_right _ (by omega)
    have hsl := sh_l (a := (bitf l (k)).toNat) (b := k) (by omega) (by omega)
    have ho40 := ofB_62 (f := bitf l) (k := k) (by omega)
    have hor := n_or (a := ofB k (bitf l)) (b := shlN (bitf l k).toNat k) (by omega) (by show (bitf l k).toNat * 2 ^ k ≤ _; omega)
    rw [show orN (ofB k (bitf l)) (shlN (bitf l k).toNat k) = ofB (k + 1) (bitf l) from rfl] at hor
    have hlt : (k : Int) < (L : Int) := by omega
    have hnle : ¬ L ≤ k := by omega
    have hwk := wrapS (n := k) (by omega)
    have hneg : ¬ (k : Int) < 0 := by omega
    have hi1 : ((k + 1 : Nat) : Int) = (k : Int) + 1 := by omega
    rw [hi1]
    generalize ofB (k + 1) (bitf l) = z at *
    generalize ofB k (bitf l) = y at *
    generalize (bitf l k).toNat = r at *
    conv => lhs; rw [fi26, xl26_0]; simp only [B26_0, b26, Tryd.f26, Option.getD, fstC, sndC, bodyC, thnC, elsC]
    rw [fi26]
    simp [xI_seq, xI_region, xI_ret, regA, regOps, runOps, opStep, wantedA, opA, evo, evos, calleeA, lk, nif_eq, putE, paramsE, valS, val2, keepE, restrict, finA, resA, binA, binInt, ofConst, ofConst1, loadA, TK.isAgg, asVar, unA, builtinA, lenOpA, lenA, ileb_cast, ileb_eq, ieqb_dec, indexAddrA, inB_dec, evPairs, storeA, AV.cellsOf, pairsOf, xI_nil, binBool, gcE, evOpt, tagZ, xI_block, xI_loopH, xI_condM, xI_exitM, xI_skip, xI_blk, exitA, ty2, ty3, ty4, ty5, ty9, ty27, eK26_0_0, runTr, pairsOk, pairOk, lstAt, lastOf, sameVal, AV.eqv, eqvs, eqvs_ints, regOps, blt_dec, cond_true, cond_false, fieldAddrA, allOne, AV.one, buildA, sizesOf, fillA, putCells, n_push, indexA, ty2, ty27, ty9, ty5, ty3, ty36, hbg, hus, huc, hsl, hor, hlt, hnle, hwk, hneg]

theorem RGB.new : RGB ((⟨[], 0⟩ : St).push ⟨[.int .i64 0, .int .i64 0], 2, false⟩) 0 0 0 := get_push_same
theorem v26 (l : List UInt8) (hl : l.length < 1000000000) : FnV TT 26 [.str l] (srV l) := by
  obtain ⟨σ, hσ⟩ : ∃ σ, (⟨[], 0⟩ : St).push ⟨[.int .i64 0, .int .i64 0], 2, false⟩ = σ := ⟨_, rfl⟩
  have g0 : RGB σ 0 0 0 := by subst hσ; exact RGB.new
  have c1 := v71 l hl σ [.str l] rfl
  refine FnV.mk fn26 rfl md26 ?_ (srV_frz l) (srV_scal l)
  have hz : (srOk l = true ∧ bmL l ≤ 16) ∨ ¬ (srOk l = true ∧ bmL l ≤ 16) := Decidable.em _
  obtain ⟨σ1, s1, g1, _, _⟩ := g0.s2 0 0
  have p1 := g1.cc
  rw [fi26]
  cases hk : srOk l with
  | false =>
    rw [hk] at c1
    have hv : srV l = .tup [.agg [.int .i64 0, .int .i64 0], .int .i64 0, .bool false] := by rw [srV, if_neg (by simp [hk])]
    refine ⟨σ1, ?_⟩
    rw [hv]
    simp [xI_seq, xI_region, xI_ret, regA, regOps, runOps, opStep, wantedA, opA, evo, evos, calleeA, lk, nif_eq, putE, paramsE, valS, val2, keepE, restrict, finA, resA, binA, binInt, ofConst, ofConst1, loadA, TK.isAgg, asVar, unA, builtinA, lenOpA, lenA, ileb_cast, ileb_eq, ieqb_dec, indexAddrA, inB_dec, evPairs, storeA, AV.cellsOf, pairsOf, xI_nil, binBool, gcE, evOpt, tagZ, xI_block, xI_loopH, xI_condM, xI_exitM, xI_skip, xI_blk, exitA, ty2, ty3, ty4, ty5, ty9, ty27, eK26_0_0, runTr, pairsOk, pairOk, lstAt, lastOf, sameVal, AV.eqv, eqvs, eqvs_ints, regOps, blt_dec, cond_true, cond_false, fieldAddrA, allOne, AV.one, buildA, sizesOf, fillA, putCells, n_push, indexA, ty2, ty27, ty9, ty5, ty3, ty36, hσ, c1, s1, p1]
  | true =>
    rw [hk] at c1
    obtain ⟨hb, hl32⟩ := srOk_of hk
    have c2 := v72 l hl32 hb σ [.str l] rfl
    have hL := bmL_le l
    by_cases hw : bmL l ≤ 16
    · obtain ⟨σ2, s2, g2, _, _⟩ := g0.s2 (bmL l) (bmT l)
      have p2 := g2.cc
      have h0 := i26 l hl32 hb (bmL l) (bmT l) hL σ (bmL l) 0 (by omega)
      have hv : srV l = .tup [.agg [.int .i64 (bmL l), .int .i64 (bmT l)], .int .i64 (ofB (bmL l) (bitf l) : Nat), .bool true] := by rw [srV, if_pos ⟨hk, hw⟩]
      have hw' : ¬ (16 : Int) < (bmL l : Int) := by omega
      have hw'' : ¬ 16 < bmL l := by omega
      simp only [ofB, show ((0 : Nat) : Int) = 0 from rfl, Int.natCast_zero] at h0
      refine ⟨σ2, ?_⟩
      rw [hv]
      generalize bmT l = t at *
      generalize ofB (bmL l) (bitf l) = z at *
      generalize bmL l = L at *
      rw [fi26] at h0
      simp [xI_seq, xI_region, xI_ret, regA, regOps, runOps, opStep, wantedA, opA, evo, evos, calleeA, lk, nif_eq, putE, paramsE, valS, val2, keepE, restrict, finA, resA, binA, binInt, ofConst, ofConst1, loadA, TK.isAgg, asVar, unA, builtinA, lenOpA, lenA, ileb_cast, ileb_eq, ieqb_dec, indexAddrA, inB_dec, evPairs, storeA, AV.cellsOf, pairsOf, xI_nil, binBool, gcE, evOpt, tagZ, xI_block, xI_loopH, xI_condM, xI_exitM, xI_skip, xI_blk, exitA, ty2, ty3, ty4, ty5, ty9, ty27, eK26_0_0, runTr, pairsOk, pairOk, lstAt, lastOf, sameVal, AV.eqv, eqvs, eqvs_ints, regOps, blt_dec, cond_true, cond_false, fieldAddrA, allOne, AV.one, buildA, sizesOf, fillA, putCells, n_push, indexA, ty2, ty27, ty9, ty5, ty3, ty36, hσ, c1, c2, hw', hw'']
      refine h0.trans ?_
      rw [xl26_0]
      simp only [B26_0, b26, Tryd.f26, Option.getD, fstC, sndC, bodyC, thnC, elsC]
      simp [xI_seq, xI_region, xI_ret, regA, regOps, runOps, opStep, wantedA, opA, evo, evos, calleeA, lk, nif_eq, putE, paramsE, valS, val2, keepE, restrict, finA, resA, binA, binInt, ofConst, ofConst1, loadA, TK.isAgg, asVar, unA, builtinA, lenOpA, lenA, ileb_cast, ileb_eq, ieqb_dec, indexAddrA, inB_dec, evPairs, storeA, AV.cellsOf, pairsOf, xI_nil, binBool, gcE, evOpt, tagZ, xI_block, xI_loopH, xI_condM, xI_exitM, xI_skip, xI_blk, exitA, ty2, ty3, ty4, ty5, ty9, ty27, eK26_0_0, runTr, pairsOk, pairOk, lstAt, lastOf, sameVal, AV.eqv, eqvs, eqvs_ints, regOps, blt_dec, cond_true, cond_false, fieldAddrA, allOne, AV.one, buildA, sizesOf, fillA, putCells, n_push, indexA, ty2, ty27, ty9, ty5, ty3, ty36]
      simp only [R26_0_0, b26, Tryd.f26, Option.getD, fstC, sndC, bodyC, thnC, elsC]
      simp [xI_seq, xI_region, xI_ret, regA, regOps, runOps, opStep, wantedA, opA, evo, evos, calleeA, lk, nif_eq, putE, paramsE, valS, val2, keepE, restrict, finA, resA, binA, binInt, ofConst, ofConst1, loadA, TK.isAgg, asVar, unA, builtinA, lenOpA, lenA, ileb_cast, ileb_eq, ieqb_dec, indexAddrA, inB_dec, evPairs, storeA, AV.cellsOf, pairsOf, xI_nil, binBool, gcE, evOpt, tagZ, xI_block, xI_loopH, xI_condM, xI_exitM, xI_skip, xI_blk, exitA, ty2, ty3, ty4, ty5, ty9, ty27, eK26_0_0, runTr, pairsOk, pairOk, lstAt, lastOf, sameVal, AV.eqv, eqvs, eqvs_ints, regOps, blt_dec, cond_true, cond_false, fieldAddrA, allOne, AV.one, buildA, sizesOf, fillA, putCells, n_push, indexA, ty2, ty27, ty9, ty5, ty3, ty36, s2, p2]
    · have hv : srV l = .tup [.agg [.int .i64 0, .int .i64 0], .int .i64 0, .bool false] := by rw [srV, if_neg (fun h => hw h.2)]
      have hw' : (16 : Int) < (bmL l : Int) := by omega
      have hw'' : 16 < bmL l := by omega
      refine ⟨σ1, ?_⟩
      rw [hv]
      simp [xI_seq, xI_region, xI_ret, regA, regOps, runOps, opStep, wantedA, opA, evo, evos, calleeA, lk, nif_eq, putE, paramsE, valS, val2, keepE, restrict, finA, resA, binA, binInt, ofConst, ofConst1, loadA, TK.isAgg, asVar, unA, builtinA, lenOpA, lenA, ileb_cast, ileb_eq, ieqb_dec, indexAddrA, inB_dec, evPairs, storeA, AV.cellsOf, pairsOf, xI_nil, binBool, gcE, evOpt, tagZ, xI_block, xI_loopH, xI_condM, xI_exitM, xI_skip, xI_blk, exitA, ty2, ty3, ty4, ty5, ty9, ty27, eK26_0_0, runTr, pairsOk, pairOk, lstAt, lastOf, sameVal, AV.eqv, eqvs, eqvs_ints, regOps, blt_dec, cond_true, cond_false, fieldAddrA, allOne, AV.one, buildA, sizesOf, fillA, putCells, n_push, indexA, ty2, ty27, ty9, ty5, ty3, ty36, hσ, c1, c2, hw', hw'', s1, p1]

open Go.Wd
/-- A function that yields a value in a heap of its own; what it was given, and what it yields, is frozen. -/
def FnF (T : Tab) (f : FuncId) (args' : List AV) (v : AV) : Prop := ∀ (σ : St) (args : List AV), mapO (frzV σ frzDepth) args = some args' → args.flatMap (rowsV σ frzDepth) = [] → callI T f args σ = some (v, σ)
theorem FnF.mk {T : Tab} {f : FuncId} {F : Func} {c : Code} {args' : List AV} {v : AV} (hF : T.fn f = some F) (hB : F.body = some c) (hm : (T.an f).mode = 1)
    (hx : ∃ σ1 v0, exI T (FI.of F (T.an f)) [.code c] (paramsE 0 args') ⟨[], 0⟩ = some (v0, σ1) ∧ frzV σ1 frzDepth v0 = some v) : FnF T f args' v := by
  intro σ args ha hr
  obtain ⟨σ1, v0, hx, hv⟩ := hx
  refine cI_1 hF hB hm ha hx ?_
  unfold frzR
  rw [hv, hr]
  simp only [St.dels]
  split <;> rfl
theorem eqsF_append (s : Nat → Bool) (w : Nat) : ∀ m t, eqsF s w t (m + 1) = eqsF s w t m ++ [ofB (w + 1) (fun i => s (t + m + i))]
  | 0, t => by simp [eqsF]
  | m + 1, t => by
    rw [eqsF, eqsF_append s w m (t + 1), eqsF, List.cons_append, show t + 1 + m = t + (m + 1) by omega]

noncomputable def b123 : Code := Tryd.f123.body.getD .skip
noncomputable def B123_0 : Code := (bodyC (bodyC (sndC (fstC (sndC (sndC b123))))))
noncomputable def K123_0 : List It := .lp B123_0 :: .blk 0 :: .code (sndC (sndC (sndC b123))) :: []
theorem xl123_0 {fi : FI} {env : Env} {σ : St} : exI TT fi K123_0 env σ = exI TT fi (.code B123_0 :: K123_0) env σ := by unfold K123_0; exact xI_lp
noncomputable def R123_0_0 : List It := .code (sndC (sndC (sndC b123))) :: []
theorem eK123_0_0 : exitA 0 K123_0 = some R123_0_0 := rfl
noncomputable def B123_1 : Code := (bodyC (bodyC (sndC (fstC (sndC (bodyC (fstC (sndC (bodyC (bodyC (sndC (fstC (sndC (sndC b123))))))))))))))
noncomputable def K123_1 : List It := .lp B123_1 :: .blk 2 :: .code (sndC (sndC (bodyC (fstC (sndC (bodyC (bodyC (sndC (fstC (sndC (sndC b123))))))))))) :: .blk 1 :: .code (sndC (sndC (bodyC (bodyC (sndC (fstC (sndC (sndC b123)))))))) :: K123_0
theorem xl123_1 {fi : FI} {env : Env} {σ : St} : exI TT fi K123_1 env σ = exI TT fi (.code B123_1 :: K123_1) env σ := by unfold K123_1; exact xI_lp
noncomputable def R123_1_2 : List It := .code (sndC (sndC (bodyC (fstC (sndC (bodyC (bodyC (sndC (fstC (sndC (sndC b123))))))))))) :: .blk 1 :: .code (sndC (sndC (bodyC (bodyC (sndC (fstC (sndC (sndC b123)))))))) :: K123_0
theorem eK123_1_2 : exitA 2 K123_1 = some R123_1_2 := rfl
noncomputable def R123_1_1 : List It := .code (sndC (sndC (bodyC (bodyC (sndC (fstC (sndC (sndC b123)))))))) :: K123_0
theorem eK123_1_1 : exitA 1 K123_1 = some R123_1_1 := rfl
theorem eK123_1_0 : exitA 0 K123_1 = some R123_0_0 := rfl
set_option maxHeartbeats 1000000 in
theorem i123 (l : List UInt8) (hl : l.length ≤ 32) (hb : l.all isBit = true) (w t : Nat) (V : AV) (hw : t + w < l.length) (σ : St) : ∀ m k : Nat, k + m = w + 1 →
    exI TT (FI.of Tryd.f123 (TT.an 123)) K123_1 [(0, .str l), (1, .int .i64 w), (5, V), (6, .int .i64 t), (7, .int .i64 (ofB k (fun i => bitf l (t + i)) : Nat)), (8, .int .i64 k)] σ = exI TT (FI.of Tryd.f123 (TT.an 123)) K123_1 [(0, .str l), (1, .int .i64 w), (5, V), (6, .int .i64 t), (7, .int .i64 (ofB (w + 1 : Nat) (fun i => bitf l (t + i)) : Nat)), (8, .int .i64 (w + 1 : Nat))] σ := by
  intro m
  induction m with
  | zero =>
    intro k hk
    obtain rfl : k = w + 1 := by omega
    rfl
  | succ m ih =>
    intro k hk
    have h1 := ih (k + 1) (by omega)
    rw [← h1]
    clear h1 ih
    have hlt0 : t + k < l.length := by omega
    have hbg := bit_get hb (i := t + k) hlt0
    have hb2 := toNat_lt (bitf l (t + k))
    have hus := u8_sub hb2
    have huc : ∀ σ, convA TT σ 5 2 (.int .u8 (((bitf l (t + k)).toNat : Nat) : Int)) = some (.int .i64 (((bitf l (t + k)).toNat : Nat) : Int), σ) := u8_conv hb2
    have hp40 := pw_40 (k := k) (by omega)
    have hm40 : (bitf l (t + k)).toNat * 2 ^ k ≤ 1 * 2 ^ k := Nat.mul_le_mul_right _ (by omega)
    have hsl := sh_l (a := (bitf l (t + k)).toNat) (b := k) (by omega) (by omega)
    have ho40 := ofB_62 (f := fun i => bitf l (t + i)) (k := k) (by omega)
    have hor := n_or (a := ofB k (fun i => bitf l (t + i))) (b := shlN (bitf l (t + k)).toNat k) (by omega) (by show (bitf l (t + k)).toNat * 2 ^ k ≤ _; omega)
    rw [show orN (ofB k (fun i => bitf l (t + i))) (shlN (bitf l (t + k)).toNat k) = ofB (k + 1) (fun i => bitf l (t + i)) from rfl] at hor
    have hlt : (k : Int) ≤ (w : Int) := by omega
    have hle : k ≤ w := by omega
    have hnlt : ¬ w < k := by omega
    have hwk := wrapS (n := k) (by omega)
    have hwt : wrapA .i64 ((t : Int) + (k : Int)) = ((t + k : Nat) : Int) := by rw [wrapA_id (by omega) (by omega)]; omega
    have hu64 := n_wrapu (a := k) (by omega)
    have convU : ∀ σ, convA TT σ 3 36 (.int .i64 (k : Int)) = some (.int .u64 (k : Int), σ) := fun σ => by simp [convA, ty3, ty36, hu64]
    have hi1 : ((k + 1 : Nat) : Int) = (k : Int) + 1 := by omega
    rw [hi1]
    generalize ofB (k + 1) (fun i => bitf l (t + i)) = z at *
    generalize ofB k (fun i => bitf l (t + i)) = y at *
    generalize (bitf l (t + k)).toNat = r at *
    generalize t + k = tk at *
    conv => lhs; rw [fi123, xl123_1]; simp only [B123_1, b123, Tryd.f123, Option.getD, fstC, sndC, bodyC, thnC, elsC]
    rw [fi123]
    simp [xI_seq, xI_region, xI_ret, regA, regOps, runOps, opStep, wantedA, opA, evo, evos, calleeA, lk, nif_eq, putE, paramsE, valS, val2, keepE, restrict, finA, resA, binA, binInt, ofConst, ofConst1, loadA, TK.isAgg, asVar, unA, builtinA, lenOpA, lenA, ileb_cast, ileb_eq, ieqb_dec, indexAddrA, inB_dec, evPairs, storeA, AV.cellsOf, pairsOf, xI_nil, binBool, gcE, evOpt, tagZ, xI_block, xI_loopH, xI_condM, xI_exitM, xI_skip, xI_blk, exitA, ty2, ty3, ty5, ty9, ty24, ty36, eK123_0_0, eK123_1_2, eK123_1_1, eK123_1_0, runTr, pairsOk, pairOk, lstAt, lastOf, sameVal, AV.eqv, eqvs, eqvs_ints, regOps, blt_dec, cond_true, cond_false, fieldAddrA, allOne, AV.one, buildA, sizesOf, fillA, putCells, n_push, indexA, ty2, ty27, ty9, ty5, ty3, ty36, hbg, hus, huc, hsl, hor, hlt, hle, hnlt, hwk, hwt, convU]
set_option maxHeartbeats 2000000 in
theorem l123 (l : List UInt8) (hl : l.length ≤ 32) (hb : l.all isBit = true) (w : Nat) (hw : w ≤ l.length) : ∀ (m t : Nat) (σ : St) (b : Nat), t + m + w = l.length → Row σ b (nints (eqsF (bitf l) w 0 t)) →
    ∃ σ' b', exI TT (FI.of Tryd.f123 (TT.an 123)) K123_0 [(0, .str l), (1, .int .i64 w), (5, .sl b 0 t t), (6, .int .i64 t)] σ = some (.sl b' 0 (l.length - w) (l.length - w), σ') ∧ Row σ' b' (nints (eqL l w)) := by
  intro m
  induction m with
  | zero =>
    intro t σ b ht hr
    have hwt : wrapA .i64 ((t : Int) + (w : Int)) = (l.length : Int) := by rw [wrapA_id (by omega) (by omega)]; omega
    have htm : l.length - w = t := by omega
    refine ⟨σ, b, ?_, by rw [eqL, htm]; exact hr⟩
    rw [htm]
    rw [fi123]
    rw [xl123_0]
    simp only [B123_0, b123, Tryd.f123, Option.getD, fstC, sndC, bodyC, thnC, elsC]
    simp [xI_seq, xI_region, xI_ret, regA, regOps, runOps, opStep, wantedA, opA, evo, evos, calleeA, lk, nif_eq, putE, paramsE, valS, val2, keepE, restrict, finA, resA, binA, binInt, ofConst, ofConst1, loadA, TK.isAgg, asVar, unA, builtinA, lenOpA, lenA, ileb_cast, ileb_eq, ieqb_dec, indexAddrA, inB_dec, evPairs, storeA, AV.cellsOf, pairsOf, xI_nil, binBool, gcE, evOpt, tagZ, xI_block, xI_loopH, xI_condM, xI_exitM, xI_skip, xI_blk, exitA, ty2, ty3, ty5, ty9, ty24, ty36, eK123_0_0, eK123_1_2, eK123_1_1, eK123_1_0, runTr, pairsOk, pairOk, lstAt, lastOf, sameVal, AV.eqv, eqvs, eqvs_ints, regOps, blt_dec, cond_true, cond_false, fieldAddrA, allOne, AV.one, buildA, sizesOf, fillA, putCells, n_push, indexA, ty2, ty27, ty9, ty5, ty3, ty36, hwt]
    simp only [R123_0_0, b123, Tryd.f123, Option.getD, fstC, sndC, bodyC, thnC, elsC]
    simp [xI_seq, xI_region, xI_ret, regA, regOps, runOps, opStep, wantedA, opA, evo, evos, calleeA, lk, nif_eq, putE, paramsE, valS, val2, keepE, restrict, finA, resA, binA, binInt, ofConst, ofConst1, loadA, TK.isAgg, asVar, unA, builtinA, lenOpA, lenA, ileb_cast, ileb_eq, ieqb_dec, indexAddrA, inB_dec, evPairs, storeA, AV.cellsOf, pairsOf, xI_nil, binBool, gcE, evOpt, tagZ, xI_block, xI_loopH, xI_condM, xI_exitM, xI_skip, xI_blk, exitA, ty2, ty3, ty5, ty9, ty24, ty36, eK123_0_0, eK123_1_2, eK123_1_1, eK123_1_0, runTr, pairsOk, pairOk, lstAt, lastOf, sameVal, AV.eqv, eqvs, eqvs_ints, regOps, blt_dec, cond_true, cond_false, fieldAddrA, allOne, AV.one, buildA, sizesOf, fillA, putCells, n_push, indexA, ty2, ty27, ty9, ty5, ty3, ty36]
  | succ m ih =>
    intro t σ b ht hr
    have h0 := i123 l hl hb w t (.sl b 0 t t) (by omega) σ (w + 1) 0 (by omega)
    obtain ⟨σ1, ha, hr1, hn1, _⟩ := nints_append_row (x := ofB (w + 1) (fun i => bitf l (t + i))) ty24 ty2 hr (n := t) (by rw [eqsF_len]) (by omega)
    have hr2 : Row σ1 (σ.n + 1) (nints (eqsF (bitf l) w 0 (t + 1))) := by
      rw [eqsF_append]; simpa using hr1
    obtain ⟨σ', b', h1, h2⟩ := ih (t + 1) σ1 (σ.n + 1) (by omega) hr2
    refine ⟨σ', b', ?_, h2⟩
    rw [← h1]
    clear h1 h2 ih
    have hwt : wrapA .i64 ((t : Int) + (w : Int)) = ((t + w : Nat) : Int) := by rw [wrapA_id (by omega) (by omega)]; omega
    have hwn := wrapS (n := t) (by omega)
    have hlt1 : ((t + w : Nat) : Int) < (l.length : Int) := by omega
    have hlt2 : ¬ l.length ≤ t + w := by omega
    have hnle : ¬ ((w : Int) + 1 ≤ (w : Int)) := by omega
    have hi1 : ((t + 1 : Nat) : Int) = (t : Int) + 1 := by omega
    have hi2 : ((w + 1 : Nat) : Int) = (w : Int) + 1 := by omega
    have bs1 : ∀ σ x, buildSliceA TT σ 24 1 [(0, .int .i64 x)] = some (.sl σ.n 0 1 1, σ.push ⟨[.int .i64 x], 1, false⟩) := bsI1
    rw [hi1]
    rw [hi2] at h0
    simp only [show ofB 0 (fun i => bitf l (t + i)) = 0 from rfl, show ((0 : Nat) : Int) = 0 from rfl, Int.natCast_zero] at h0
    generalize ofB (w + 1) (fun i => bitf l (t + i)) = z at *
    generalize t + w = tw at *
    conv => lhs; rw [fi123, xl123_0]; simp only [B123_0, b123, Tryd.f123, Option.getD, fstC, sndC, bodyC, thnC, elsC]
    rw [fi123] at h0 ⊢
    simp [xI_seq, xI_region, xI_ret, regA, regOps, runOps, opStep, wantedA, opA, evo, evos, calleeA, lk, nif_eq, putE, paramsE, valS, val2, keepE, restrict, finA, resA, binA, binInt, ofConst, ofConst1, loadA, TK.isAgg, asVar, unA, builtinA, lenOpA, lenA, ileb_cast, ileb_eq, ieqb_dec, indexAddrA, inB_dec, evPairs, storeA, AV.cellsOf, pairsOf, xI_nil, binBool, gcE, evOpt, tagZ, xI_block, xI_loopH, xI_condM, xI_exitM, xI_skip, xI_blk, exitA, ty2, ty3, ty5, ty9, ty24, ty36, eK123_0_0, eK123_1_2, eK123_1_1, eK123_1_0, runTr, pairsOk, pairOk, lstAt, lastOf, sameVal, AV.eqv, eqvs, eqvs_ints, regOps, blt_dec, cond_true, cond_false, fieldAddrA, allOne, AV.one, buildA, sizesOf, fillA, putCells, n_push, indexA, ty2, ty27, ty9, ty5, ty3, ty36, hwt, hlt1, hlt2]
    refine h0.trans ?_
    conv => lhs; rw [xl123_1]; simp only [B123_1, b123, Tryd.f123, Option.getD, fstC, sndC, bodyC, thnC, elsC]
    simp [xI_seq, xI_region, xI_ret, regA, regOps, runOps, opStep, wantedA, opA, evo, evos, calleeA, lk, nif_eq, putE, paramsE, valS, val2, keepE, restrict, finA, resA, binA, binInt, ofConst, ofConst1, loadA, TK.isAgg, asVar, unA, builtinA, lenOpA, lenA, ileb_cast, ileb_eq, ieqb_dec, indexAddrA, inB_dec, evPairs, storeA, AV.cellsOf, pairsOf, xI_nil, binBool, gcE, evOpt, tagZ, xI_block, xI_loopH, xI_condM, xI_exitM, xI_skip, xI_blk, exitA, ty2, ty3, ty5, ty9, ty24, ty36, eK123_0_0, eK123_1_2, eK123_1_1, eK123_1_0, runTr, pairsOk, pairOk, lstAt, lastOf, sameVal, AV.eqv, eqvs, eqvs_ints, regOps, blt_dec, cond_true, cond_false, fieldAddrA, allOne, AV.one, buildA, sizesOf, fillA, putCells, n_push, indexA, ty2, ty27, ty9, ty5, ty3, ty36, hnle]
    simp only [R123_1_2, b123, Tryd.f123, Option.getD, fstC, sndC, bodyC, thnC, elsC]
    simp [xI_seq, xI_region, xI_ret, regA, regOps, runOps, opStep, wantedA, opA, evo, evos, calleeA, lk, nif_eq, putE, paramsE, valS, val2, keepE, restrict, finA, resA, binA, binInt, ofConst, ofConst1, loadA, TK.isAgg, asVar, unA, builtinA, lenOpA, lenA, ileb_cast, ileb_eq, ieqb_dec, indexAddrA, inB_dec, evPairs, storeA, AV.cellsOf, pairsOf, xI_nil, binBool, gcE, evOpt, tagZ, xI_block, xI_loopH, xI_condM, xI_exitM, xI_skip, xI_blk, exitA, ty2, ty3, ty5, ty9, ty24, ty36, eK123_0_0, eK123_1_2, eK123_1_1, eK123_1_0, runTr, pairsOk, pairOk, lstAt, lastOf, sameVal, AV.eqv, eqvs, eqvs_ints, regOps, blt_dec, cond_true, cond_false, fieldAddrA, allOne, AV.one, buildA, sizesOf, fillA, putCells, n_push, indexA, ty2, ty27, ty9, ty5, ty3, ty36, bs1, ha, hwn]
theorem v123 (l : List UInt8) (hl : l.length ≤ 32) (hb : l.all isBit = true) (w : Nat) (hw : w ≤ l.length) : FnF TT 123 [.str l, .int .i64 w] (.lst (eqL l w).length (ints (nints (eqL l w)))) := by
  obtain ⟨σ', b', h1, h2⟩ := l123 l hl hb w hw (l.length - w) 0 ((⟨[], 0⟩ : St).push ⟨ints [], 1, false⟩) 0 (by omega) ⟨false, rfl, by decide⟩
  refine FnF.mk fn123 rfl md123 ⟨σ', .sl b' 0 (l.length - w) (l.length - w), ?_, ?_⟩
  · simp only [show ((0 : Nat) : Int) = 0 from rfl, Int.natCast_zero] at h1
    rw [← h1, fi123]
    simp [xI_seq, xI_region, xI_ret, regA, regOps, runOps, opStep, wantedA, opA, evo, evos, calleeA, lk, nif_eq, putE, paramsE, valS, val2, keepE, restrict, finA, resA, binA, binInt, ofConst, ofConst1, loadA, TK.isAgg, asVar, unA, builtinA, lenOpA, lenA, ileb_cast, ileb_eq, ieqb_dec, indexAddrA, inB_dec, evPairs, storeA, AV.cellsOf, pairsOf, xI_nil, binBool, gcE, evOpt, tagZ, xI_block, xI_loopH, xI_condM, xI_exitM, xI_skip, xI_blk, exitA, ty2, ty3, ty5, ty9, ty24, ty36, eK123_0_0, eK123_1_2, eK123_1_1, eK123_1_0, runTr, pairsOk, pairOk, lstAt, lastOf, sameVal, AV.eqv, eqvs, eqvs_ints, regOps, blt_dec, cond_true, cond_false, fieldAddrA, allOne, AV.one, buildA, sizesOf, fillA, putCells, n_push, indexA, ty2, ty27, ty9, ty5, ty3, ty36, bsI0]
    rfl
  · rw [eqL_len]
    exact h2.frz (d := 4) (by rw [nints_length, eqL_len]) (Nat.le_refl _)
theorem c123 (l : List UInt8) (hl : l.length ≤ 32) (hb : l.all isBit = true) (w : Nat) (hw : w ≤ l.length) (σ : St) : callI TT 123 [.str l, .int .i64 w] σ = some (.lst (eqL l w).length (ints (nints (eqL l w))), σ) := v123 l hl hb w hw σ _ rfl rfl

noncomputable def b121 : Code := Tryd.f121.body.getD .skip
noncomputable def B121_0 : Code := (bodyC (bodyC (fstC (sndC (sndC b121)))))
noncomputable def K121_0 : List It := .lp B121_0 :: .blk 0 :: .code (sndC (sndC (sndC b121))) :: []
theorem xl121_0 {fi : FI} {env : Env} {σ : St} : exI TT fi K121_0 env σ = exI TT fi (.code B121_0 :: K121_0) env σ := by unfold K121_0; exact xI_lp
noncomputable def R121_0_0 : List It := .code (sndC (sndC (sndC b121))) :: []
theorem eK121_0_0 : exitA 0 K121_0 = some R121_0_0 := rfl
theorem l121 (l : List UInt8) (hl : l.length ≤ 32) (hb : l.all isBit = true) (σ : St) : ∀ m k : Nat, k + m = bmL l →
    exI TT (FI.of Tryd.f121 (TT.an 121)) K121_0 [(0, .str l), (3, .int .i64 k)] σ = some (.int .i64 (bmL l), σ) := by
  have hL := bmL_le l
  intro m
  induction m with
  | zero =>
    intro k hk
    obtain rfl : k = bmL l := by omega
    have c1 := c123 l hl hb (bmL l) hL σ
    have c2 := v158 (bmL l) (by omega) (eqL l (bmL l)) (by rw [eqL_len]; omega) (fun e he => Nat.lt_of_lt_of_le (eqL_lt e he) (Nat.pow_le_pow_right (by decide) (by omega))) σ [.lst (eqL l (bmL l)).length (ints (nints (eqL l (bmL l)))), .int .u64 (bmL l)] rfl
    rw [canY (by omega)] at c2
    have hu64 := n_wrapu (a := bmL l) (by omega)
    have convU : ∀ σ, convA TT σ 3 36 (.int .i64 (bmL l : Int)) = some (.int .u64 (bmL l : Int), σ) := fun σ => by simp [convA, ty3, ty36, hu64]
    rw [fi121]
    rw [xl121_0]
    simp only [B121_0, b121, Tryd.f121, Option.getD, fstC, sndC, bodyC, thnC, elsC]
    simp [xI_seq, xI_region, xI_ret, regA, regOps, runOps, opStep, wantedA, opA, evo, evos, calleeA, lk, nif_eq, putE, paramsE, valS, val2, keepE, restrict, finA, resA, binA, binInt, ofConst, ofConst1, loadA, TK.isAgg, asVar, unA, builtinA, lenOpA, lenA, ileb_cast, ileb_eq, ieqb_dec, indexAddrA, inB_dec, evPairs, storeA, AV.cellsOf, pairsOf, xI_nil, binBool, gcE, evOpt, tagZ, xI_block, xI_loopH, xI_condM, xI_exitM, xI_skip, xI_blk, exitA, ty3, ty4, ty36, eK121_0_0, runTr, pairsOk, pairOk, lstAt, lastOf, sameVal, AV.eqv, eqvs, eqvs_ints, regOps, blt_dec, cond_true, cond_false, fieldAddrA, allOne, AV.one, buildA, sizesOf, fillA, putCells, n_push, indexA, ty2, ty27, ty9, ty5, ty3, ty36, c1, c2, convU]
    simp only [R121_0_0, b121, Tryd.f121, Option.getD, fstC, sndC, bodyC, thnC, elsC]
    simp [xI_seq, xI_region, xI_ret, regA, regOps, runOps, opStep, wantedA, opA, evo, evos, calleeA, lk, nif_eq, putE, paramsE, valS, val2, keepE, restrict, finA, resA, binA, binInt, ofConst, ofConst1, loadA, TK.isAgg, asVar, unA, builtinA, lenOpA, lenA, ileb_cast, ileb_eq, ieqb_dec, indexAddrA, inB_dec, evPairs, storeA, AV.cellsOf, pairsOf, xI_nil, binBool, gcE, evOpt, tagZ, xI_block, xI_loopH, xI_condM, xI_exitM, xI_skip, xI_blk, exitA, ty3, ty4, ty36, eK121_0_0, runTr, pairsOk, pairOk, lstAt, lastOf, sameVal, AV.eqv, eqvs, eqvs_ints, regOps, blt_dec, cond_true, cond_false, fieldAddrA, allOne, AV.one, buildA, sizesOf, fillA, putCells, n_push, indexA, ty2, ty27, ty9, ty5, ty3, ty36]
  | succ m ih =>
    intro k hk
    have h1 := ih (k + 1) (by omega)
    have c1 := c123 l hl hb k (by omega) σ
    have c2 := v158 k (by omega) (eqL l k) (by rw [eqL_len]; omega) (fun e he => Nat.lt_of_lt_of_le (eqL_lt e he) (Nat.pow_le_pow_right (by decide) (by omega))) σ [.lst (eqL l k).length (ints (nints (eqL l k))), .int .u64 k] rfl
    rw [canN (by omega) (by omega)] at c2
    have hu64 := n_wrapu (a := k) (by omega)
    have convU : ∀ σ, convA TT σ 3 36 (.int .i64 (k : Int)) = some (.int .u64 (k : Int), σ) := fun σ => by simp [convA, ty3, ty36, hu64]
    have hw := wrapS (n := k) (by omega)
    rw [fi121] at h1 ⊢
    rw [xl121_0]
    simp only [B121_0, b121, Tryd.f121, Option.getD, fstC, sndC, bodyC, thnC, elsC]
    simp [xI_seq, xI_region, xI_ret, regA, regOps, runOps, opStep, wantedA, opA, evo, evos, calleeA, lk, nif_eq, putE, paramsE, valS, val2, keepE, restrict, finA, resA, binA, binInt, ofConst, ofConst1, loadA, TK.isAgg, asVar, unA, builtinA, lenOpA, lenA, ileb_cast, ileb_eq, ieqb_dec, indexAddrA, inB_dec, evPairs, storeA, AV.cellsOf, pairsOf, xI_nil, binBool, gcE, evOpt, tagZ, xI_block, xI_loopH, xI_condM, xI_exitM, xI_skip, xI_blk, exitA, ty3, ty4, ty36, eK121_0_0, runTr, pairsOk, pairOk, lstAt, lastOf, sameVal, AV.eqv, eqvs, eqvs_ints, regOps, blt_dec, cond_true, cond_false, fieldAddrA, allOne, AV.one, buildA, sizesOf, fillA, putCells, n_push, indexA, ty2, ty27, ty9, ty5, ty3, ty36, c1, c2, convU, hw]
    simpa using h1
theorem v121 (l : List UInt8) (hl : l.length ≤ 32) (hb : l.all isBit = true) : FnV TT 121 [.str l] (.int .i64 (bmL l)) := by
  refine FnV.mk fn121 rfl md121 ⟨⟨[], 0⟩, ?_⟩ (fun _ => rfl) rfl
  have h := l121 l hl hb ⟨[], 0⟩ (bmL l) 0 (by omega)
  simp only [show ((0 : Nat) : Int) = 0 from rfl, Int.natCast_zero] at h
  rw [← h, fi121]
  simp [xI_seq, xI_region, xI_ret, regA, regOps, runOps, opStep, wantedA, opA, evo, evos, calleeA, lk, nif_eq, putE, paramsE, valS, val2, keepE, restrict, finA, resA, binA, binInt, ofConst, ofConst1, loadA, TK.isAgg, asVar, unA, builtinA, lenOpA, lenA, ileb_cast, ileb_eq, ieqb_dec, indexAddrA, inB_dec, evPairs, storeA, AV.cellsOf, pairsOf, xI_nil, binBool, gcE, evOpt, tagZ, xI_block, xI_loopH, xI_condM, xI_exitM, xI_skip, xI_blk, exitA, ty3, ty4, ty36, eK121_0_0]
  rfl

noncomputable def b122 : Code := Tryd.f122.body.getD .skip
noncomputable def B122_0 : Code := (bodyC (bodyC (sndC (fstC (sndC (sndC b122))))))
noncomputable def K122_0 : List It := .lp B122_0 :: .blk 0 :: .code (sndC (sndC (sndC b122))) :: []
theorem xl122_0 {fi : FI} {env : Env} {σ : St} : exI TT fi K122_0 env σ = exI TT fi (.code B122_0 :: K122_0) env σ := by unfold K122_0; exact xI_lp
noncomputable def R122_0_0 : List It := .code (sndC (sndC (sndC b122))) :: []
theorem eK122_0_0 : exitA 0 K122_0 = some R122_0_0 := rfl
theorem l122 (w : Nat) (hw : w ≤ 32) : ∀ (k : Nat) (es : List Nat) (out : Nat) (σ : St) (V : AV), k ≤ w → out < 2 ^ w → es.length + k ≤ 100000 → (∀ e ∈ es, e < 2 ^ (w + 1)) → IsL σ V (nints es) →
    ∃ σ', exI TT (FI.of Tryd.f122 (TT.an 122)) K122_0 [(0, V), (1, .int .i64 w), (5, .int .i64 out), (6, .int .i64 (cI k))] σ = some (.int .i64 (greedyL w k es out), σ') := by
  intro k
  induction k with
  | zero =>
    intro es out σ V hk ho hl hes hV
    refine ⟨σ, ?_⟩
    simp only [greedyL, cI]
    rw [fi122]
    rw [xl122_0]
    simp only [B122_0, b122, Tryd.f122, Option.getD, fstC, sndC, bodyC, thnC, elsC]
    simp [xI_seq, xI_region, xI_ret, regA, regOps, runOps, opStep, wantedA, opA, evo, evos, calleeA, lk, nif_eq, putE, paramsE, valS, val2, keepE, restrict, finA, resA, binA, binInt, ofConst, ofConst1, loadA, TK.isAgg, asVar, unA, builtinA, lenOpA, lenA, ileb_cast, ileb_eq, ieqb_dec, indexAddrA, inB_dec, evPairs, storeA, AV.cellsOf, pairsOf, xI_nil, binBool, gcE, evOpt, tagZ, xI_block, xI_loopH, xI_condM, xI_exitM, xI_skip, xI_blk, exitA, ty2, ty3, ty4, ty24, ty36, eK122_0_0]
    simp only [R122_0_0, b122, Tryd.f122, Option.getD, fstC, sndC, bodyC, thnC, elsC]
    simp [xI_seq, xI_region, xI_ret, regA, regOps, runOps, opStep, wantedA, opA, evo, evos, calleeA, lk, nif_eq, putE, paramsE, valS, val2, keepE, restrict, finA, resA, binA, binInt, ofConst, ofConst1, loadA, TK.isAgg, asVar, unA, builtinA, lenOpA, lenA, ileb_cast, ileb_eq, ieqb_dec, indexAddrA, inB_dec, evPairs, storeA, AV.cellsOf, pairsOf, xI_nil, binBool, gcE, evOpt, tagZ, xI_block, xI_loopH, xI_condM, xI_exitM, xI_skip, xI_blk, exitA, ty2, ty3, ty4, ty24, ty36, eK122_0_0]
  | succ k ih =>
    intro es out σ V hk ho hl hes hV
    have hw16 : 2 ^ w ≤ 4294967296 := pw_32 hw
    have hkw : 2 ^ k < 2 ^ w := Nat.pow_lt_pow_right (by decide) (by omega)
    obtain ⟨σ1, c1, r1, o1, n1⟩ := own_row σ V es (by omega) hV
    obtain ⟨σ2, a1, r2, n2, u2⟩ := nints_append_row (x := pw k) ty24 ty2 r1 (n := es.length) rfl (by omega)
    have hV2 : IsL σ2 V (nints es) := isl_keep hV (by omega) fun c hc => (u2 c (by omega) (by omega)).trans (o1.2 c hc)
    obtain ⟨σ3, c3, r3, o3, n3⟩ := own_row σ2 V es (by omega) hV2
    obtain ⟨σ4, a3, r4, n4, u4⟩ := nints_append_row (x := orN (pw k) (pw w)) ty24 ty2 r3 (n := es.length) rfl (by omega)
    have hz : ∀ e ∈ es ++ [pw k], e < 2 ^ (w + 1) := by
      intro e he
      rcases List.mem_append.1 he with he | he
      · exact hes e he
      · rw [List.mem_singleton.1 he]; exact Nat.lt_of_lt_of_le hkw (Nat.pow_le_pow_right (by decide) (by omega))
    have ho1 : ∀ e ∈ es ++ [orN (pw k) (pw w)], e < 2 ^ (w + 1) := by
      intro e he
      rcases List.mem_append.1 he with he | he
      · exact hes e he
      · rw [List.mem_singleton.1 he]; exact Nat.or_lt_two_pow (Nat.lt_of_lt_of_le hkw (Nat.pow_le_pow_right (by decide) (by omega))) (Nat.pow_lt_pow_right (by decide) (by omega))
    have cS0 : callI TT 158 [.sl (σ1.n + 1) 0 (es ++ [pw k]).length (es ++ [pw k]).length, .int .u64 w] σ2 = some (.bool (can w (es ++ [pw k])), σ2) := v158 w (by omega) (es ++ [pw k]) (by simp; omega) (fun e he => lt_w hw (hz e he)) σ2 _ (row_frz r2 _ rfl rfl)
    have hz0 : IsL σ2 (.sl (σ1.n + 1) 0 (es.length + 1) (es.length + 1)) (nints (es ++ [pw k])) := IsL.of_row r2 (by rw [nints_length]; simp)
    have hz1 : IsL σ4 (.sl (σ3.n + 1) 0 (es.length + 1) (es.length + 1)) (nints (es ++ [orN (pw k) (pw w)])) := IsL.of_row r4 (by rw [nints_length]; simp)
    simp only [show (es ++ [pw k]).length = es.length + 1 by simp] at cS0
    have u1 := n_wrapu (a := k) (by omega)
    have u2' := n_wrapu (a := w) (by omega)
    have e1 := sh_1 (b := k) (by omega)
    have e2 := sh_1 (b := w) (by omega)
    have hpk := pw_32 (k := k) (by omega)
    have hpw := pw_32 hw
    have e3 := n_or (a := pw k) (b := pw w) (by omega) (by omega)
    have e4 := n_or (a := out) (b := pw k) (by omega) (by omega)
    have hcw := cI_wrap k (by omega)
    have hk0 : (0 : Int) ≤ (k : Int) := by omega
    have hout : orN out (pw k) < 2 ^ w := Nat.or_lt_two_pow ho hkw
    have hgr : greedyL w (k + 1) es out = if can w (es ++ [pw k]) then greedyL w k (es ++ [pw k]) out else greedyL w k (es ++ [orN (pw k) (pw w)]) (orN out (pw k)) := rfl
    rw [hgr, show cI (k + 1) = (k : Int) from rfl]
    cases h0 : can w (es ++ [pw k]) with
    | true =>
      rw [h0] at cS0
      obtain ⟨σ', h5⟩ := ih (es ++ [pw k]) out σ2 _ (by omega) ho (by simp; omega) hz hz0
      refine ⟨σ', ?_⟩
      simp only [if_true]
      rw [fi122] at h5 ⊢
      rw [xl122_0]
      simp only [B122_0, b122, Tryd.f122, Option.getD, fstC, sndC, bodyC, thnC, elsC]
      simp [xI_seq, xI_region, xI_ret, regA, regOps, runOps, opStep, wantedA, opA, evo, evos, calleeA, lk, nif_eq, putE, paramsE, valS, val2, keepE, restrict, finA, resA, binA, binInt, ofConst, ofConst1, loadA, TK.isAgg, asVar, unA, builtinA, lenOpA, lenA, ileb_cast, ileb_eq, ieqb_dec, indexAddrA, inB_dec, evPairs, storeA, AV.cellsOf, pairsOf, xI_nil, binBool, gcE, evOpt, tagZ, xI_block, xI_loopH, xI_condM, xI_exitM, xI_skip, xI_blk, exitA, ty2, ty3, ty4, ty24, ty36, eK122_0_0, runTr, pairsOk, pairOk, lstAt, lastOf, sameVal, AV.eqv, eqvs, eqvs_ints, regOps, blt_dec, cond_true, cond_false, fieldAddrA, allOne, AV.one, buildA, sizesOf, fillA, putCells, n_push, indexA, ty2, ty27, ty9, ty5, ty3, ty36, c1, a1, cS0, u1, u2', e1, e2, e3, hcw, hk0, bsI1, convA]
      exact h5
    | false =>
      rw [h0] at cS0
      obtain ⟨σ', h5⟩ := ih (es ++ [orN (pw k) (pw w)]) (orN out (pw k)) σ4 _ (by omega) hout (by simp; omega) ho1 hz1
      refine ⟨σ', ?_⟩
      simp only [Bool.false_eq_true, if_false]
      rw [fi122] at h5 ⊢
      rw [xl122_0]
      simp only [B122_0, b122, Tryd.f122, Option.getD, fstC, sndC, bodyC, thnC, elsC]
      simp [xI_seq, xI_region, xI_ret, regA, regOps, runOps, opStep, wantedA, opA, evo, evos, calleeA, lk, nif_eq, putE, paramsE, valS, val2, keepE, restrict, finA, resA, binA, binInt, ofConst, ofConst1, loadA, TK.isAgg, asVar, unA, builtinA, lenOpA, lenA, ileb_cast, ileb_eq, ieqb_dec, indexAddrA, inB_dec, evPairs, storeA, AV.cellsOf, pairsOf, xI_nil, binBool, gcE, evOpt, tagZ, xI_block, xI_loopH, xI_condM, xI_exitM, xI_skip, xI_blk, exitA, ty2, ty3, ty4, ty24, ty36, eK122_0_0, runTr, pairsOk, pairOk, lstAt, lastOf, sameVal, AV.eqv, eqvs, eqvs_ints, regOps, blt_dec, cond_true, cond_false, fieldAddrA, allOne, AV.one, buildA, sizesOf, fillA, putCells, n_push, indexA, ty2, ty27, ty9, ty5, ty3, ty36, c1, a1, c3, a3, cS0, u1, u2', e1, e2, e3, e4, hcw, hk0, bsI1, convA]
      exact h5
theorem v122 (w : Nat) (hw : w ≤ 32) (es : List Nat) (hl : es.length ≤ 99000) (hes : ∀ e ∈ es, e < 2 ^ (w + 1)) : FnV TT 122 [.lst es.length (ints (nints es)), .int .i64 w] (.int .i64 (greedyL w w es 0)) := by
  obtain ⟨σ', h5⟩ := l122 w hw w es 0 ⟨[], 0⟩ (.lst es.length (ints (nints es))) (Nat.le_refl _) (Nat.pow_pos (by decide)) (by omega) hes (.inl (by rw [nints_length]))
  have hcw := cI_wrap w (by omega)
  refine FnV.mk fn122 rfl md122 ⟨σ', ?_⟩ (fun _ => rfl) rfl
  simp only [show ((0 : Nat) : Int) = 0 from rfl, Int.natCast_zero] at h5
  rw [← h5, fi122]
  simp [xI_seq, xI_region, xI_ret, regA, regOps, runOps, opStep, wantedA, opA, evo, evos, calleeA, lk, nif_eq, putE, paramsE, valS, val2, keepE, restrict, finA, resA, binA, binInt, ofConst, ofConst1, loadA, TK.isAgg, asVar, unA, builtinA, lenOpA, lenA, ileb_cast, ileb_eq, ieqb_dec, indexAddrA, inB_dec, evPairs, storeA, AV.cellsOf, pairsOf, xI_nil, binBool, gcE, evOpt, tagZ, xI_block, xI_loopH, xI_condM, xI_exitM, xI_skip, xI_blk, exitA, ty2, ty3, ty4, ty24, ty36, eK122_0_0, runTr, pairsOk, pairOk, lstAt, lastOf, sameVal, AV.eqv, eqvs, eqvs_ints, regOps, blt_dec, cond_true, cond_false, fieldAddrA, allOne, AV.one, buildA, sizesOf, fillA, putCells, n_push, indexA, ty2, ty27, ty9, ty5, ty3, ty36, hcw]
  rfl

noncomputable def b75 : Code := Tryd.f75.body.getD .skip
noncomputable def B75_0 : Code := (bodyC (bodyC (sndC (fstC (sndC (sndC (sndC (sndC (sndC b75)))))))))
noncomputable def K75_0 : List It := .lp B75_0 :: .blk 0 :: .code (sndC (sndC (sndC (sndC (sndC (sndC b75)))))) :: []
theorem xl75_0 {fi : FI} {env : Env} {σ : St} : exI TT fi K75_0 env σ = exI TT fi (.code B75_0 :: K75_0) env σ := by unfold K75_0; exact xI_lp
noncomputable def R75_0_0 : List It := .code (sndC (sndC (sndC (sndC (sndC (sndC b75)))))) :: []
theorem eK75_0_0 : exitA 0 K75_0 = some R75_0_0 := rfl
set_option maxHeartbeats 1000000 in
theorem i75 (l : List UInt8) (hl : l.length ≤ 32) (hb : l.all isBit = true) (L T : Nat) (hL : L ≤ l.length) (σ : St) : ∀ m k : Nat, k + m = L →
    exI TT (FI.of Tryd.f75 (TT.an 75)) K75_0 [(0, .str l), (2, .ptr 0 0), (5, .int .i64 L), (6, .int .i64 (ofB k (bitf l) : Nat)), (7, .int .i64 k)] σ = exI TT (FI.of Tryd.f75 (TT.an 75)) K75_0 [(0, .str l), (2, .ptr 0 0), (5, .int .i64 L), (6, .int .i64 (ofB L (bitf l) : Nat)), (7, .int .i64 L)] σ := by
  intro m
  induction m with
  | zero =>
    intro k hk
    obtain rfl : k = L := by omega
    rfl
  | succ m ih =>
    intro k hk
    have h1 := ih (k + 1) (by omega)
    rw [← h1]
    clear h1 ih
    have hlt0 : k < l.length := by omega
    have hbg := bit_get hb (i := k) hlt0
    have hb2 := toNat_lt (bitf l (k))
    have hus := u8_sub hb2
    have huc : ∀ σ, convA TT σ 5 2 (.int .u8 (((bitf l (k)).toNat : Nat) : Int)) = some (.int .i64 (((bitf l (k)).toNat : Nat) : Int), σ) := u8_conv hb2
    have hp40 := pw_40 (k := k) (by omega)
    have hm40 : (bitf l (k)).toNat * 2 ^ k ≤ 1 * 2 ^ k := Nat.mul_le_mul_right _ (by omega)
    have hsl := sh_l (a := (bitf l (k)).toNat) (b := k) (by omega) (by omega)
    have ho40 := ofB_62 (f := bitf l) (k := k) (by omega)
    have hor := n_or (a := ofB k (bitf l)) (b := shlN (bitf l k).toNat k) (by omega) (by show (bitf l k).toNat * 2 ^ k ≤ _; omega)
    rw [show orN (ofB k (bitf l)) (shlN (bitf l k).toNat k) = ofB (k + 1) (bitf l) from rfl] at hor
    have hlt : (k : Int) < (L : Int) := by omega
    have hnle : ¬ L ≤ k := by omega
    have hwk := wrapS (n := k) (by omega)
    have hu64 := n_wrapu (a := k) (by omega)
    have convU : ∀ σ, convA TT σ 3 36 (.int .i64 (k : Int)) = some (.int .u64 (k : Int), σ) := fun σ => by simp [convA, ty3, ty36, hu64]
    have hi1 : ((k + 1 : Nat) : Int) = (k : Int) + 1 := by omega
    rw [hi1]
    generalize ofB (k + 1) (bitf l) = z at *
    generalize ofB k (bitf l) = y at *
    generalize (bitf l k).toNat = r at *
    conv => lhs; rw [fi75, xl75_0]; simp only [B75_0, b75, Tryd.f75, Option.getD, fstC, sndC, bodyC, thnC, elsC]
    rw [fi75]
    simp [xI_seq, xI_region, xI_ret, regA, regOps, runOps, opStep, wantedA, opA, evo, evos, calleeA, lk, nif_eq, putE, paramsE, valS, val2, keepE, restrict, finA, resA, binA, binInt, ofConst, ofConst1, loadA, TK.isAgg, asVar, unA, builtinA, lenOpA, lenA, ileb_cast, ileb_eq, ieqb_dec, indexAddrA, inB_dec, evPairs, storeA, AV.cellsOf, pairsOf, xI_nil, binBool, gcE, evOpt, tagZ, xI_block, xI_loopH, xI_condM, xI_exitM, xI_skip, xI_blk, exitA, ty2, ty3, ty4, ty5, ty9, ty27, ty36, eK75_0_0, runTr, pairsOk, pairOk, lstAt, lastOf, sameVal, AV.eqv, eqvs, eqvs_ints, regOps, blt_dec, cond_true, cond_false, fieldAddrA, allOne, AV.one, buildA, sizesOf, fillA, putCells, n_push, indexA, ty2, ty27, ty9, ty5, ty3, ty36, hbg, hus, huc, hsl, hor, hlt, hnle, hwk, hu64, convU]

theorem v75 (l : List UInt8) (hl : l.length < 1000000000) : FnV TT 75 [.str l] (srV l) := by
  obtain ⟨σ, hσ⟩ : ∃ σ, (⟨[], 0⟩ : St).push ⟨[.int .i64 0, .int .i64 0], 2, false⟩ = σ := ⟨_, rfl⟩
  have g0 : RGB σ 0 0 0 := by subst hσ; exact RGB.new
  have c1 := v120 l hl σ [.str l] rfl
  refine FnV.mk fn75 rfl md75 ?_ (srV_frz l) (srV_scal l)
  obtain ⟨σ1, s1, g1, _, _⟩ := g0.s2 0 0
  have p1 := g1.cc
  rw [fi75]
  cases hk : srOk l with
  | false =>
    rw [hk] at c1
    have hv : srV l = .tup [.agg [.int .i64 0, .int .i64 0], .int .i64 0, .bool false] := by rw [srV, if_neg (by simp [hk])]
    refine ⟨σ1, ?_⟩
    rw [hv]
    simp [xI_seq, xI_region, xI_ret, regA, regOps, runOps, opStep, wantedA, opA, evo, evos, calleeA, lk, nif_eq, putE, paramsE, valS, val2, keepE, restrict, finA, resA, binA, binInt, ofConst, ofConst1, loadA, TK.isAgg, asVar, unA, builtinA, lenOpA, lenA, ileb_cast, ileb_eq, ieqb_dec, indexAddrA, inB_dec, evPairs, storeA, AV.cellsOf, pairsOf, xI_nil, binBool, gcE, evOpt, tagZ, xI_block, xI_loopH, xI_condM, xI_exitM, xI_skip, xI_blk, exitA, ty2, ty3, ty4, ty5, ty9, ty27, ty36, eK75_0_0, runTr, pairsOk, pairOk, lstAt, lastOf, sameVal, AV.eqv, eqvs, eqvs_ints, regOps, blt_dec, cond_true, cond_false, fieldAddrA, allOne, AV.one, buildA, sizesOf, fillA, putCells, n_push, indexA, ty2, ty27, ty9, ty5, ty3, ty36, hσ, c1, s1, p1]
  | true =>
    rw [hk] at c1
    obtain ⟨hb, hl32⟩ := srOk_of hk
    have c2 := v121 l hl32 hb σ [.str l] rfl
    have hL := bmL_le l
    by_cases hw : bmL l ≤ 16
    · obtain ⟨σ2, s2, g2, _, _⟩ := g0.s2 (bmL l) (bmT l)
      have p2 := g2.cc
      have h0 := i75 l hl32 hb (bmL l) 0 hL σ (bmL l) 0 (by omega)
      have c3 := c123 l hl32 hb (bmL l) hL σ
      have c4 : callI TT 122 [.lst (eqL l (bmL l)).length (ints (nints (eqL l (bmL l)))), .int .i64 (bmL l)] σ = some (.int .i64 (bmT l), σ) := v122 (bmL l) (by omega) (eqL l (bmL l)) (by rw [eqL_len]; omega) eqL_lt σ _ rfl
      have hv : srV l = .tup [.agg [.int .i64 (bmL l), .int .i64 (bmT l)], .int .i64 (ofB (bmL l) (bitf l) : Nat), .bool true] := by rw [srV, if_pos ⟨hk, hw⟩]
      have hw' : ¬ (16 : Int) < (bmL l : Int) := by omega
      have hw'' : ¬ 16 < bmL l := by omega
      simp only [ofB, show ((0 : Nat) : Int) = 0 from rfl, Int.natCast_zero] at h0
      refine ⟨σ2, ?_⟩
      rw [hv]
      generalize bmT l = t at *
      generalize ofB (bmL l) (bitf l) = z at *
      generalize eqL l (bmL l) = Q at *
      generalize bmL l = L at *
      rw [fi75] at h0
      simp [xI_seq, xI_region, xI_ret, regA, regOps, runOps, opStep, wantedA, opA, evo, evos, calleeA, lk, nif_eq, putE, paramsE, valS, val2, keepE, restrict, finA, resA, binA, binInt, ofConst, ofConst1, loadA, TK.isAgg, asVar, unA, builtinA, lenOpA, lenA, ileb_cast, ileb_eq, ieqb_dec, indexAddrA, inB_dec, evPairs, storeA, AV.cellsOf, pairsOf, xI_nil, binBool, gcE, evOpt, tagZ, xI_block, xI_loopH, xI_condM, xI_exitM, xI_skip, xI_blk, exitA, ty2, ty3, ty4, ty5, ty9, ty27, ty36, eK75_0_0, runTr, pairsOk, pairOk, lstAt, lastOf, sameVal, AV.eqv, eqvs, eqvs_ints, regOps, blt_dec, cond_true, cond_false, fieldAddrA, allOne, AV.one, buildA, sizesOf, fillA, putCells, n_push, indexA, ty2, ty27, ty9, ty5, ty3, ty36, hσ, c1, c2, hw', hw'']
      refine h0.trans ?_
      rw [xl75_0]
      simp only [B75_0, b75, Tryd.f75, Option.getD, fstC, sndC, bodyC, thnC, elsC]
      simp [xI_seq, xI_region, xI_ret, regA, regOps, runOps, opStep, wantedA, opA, evo, evos, calleeA, lk, nif_eq, putE, paramsE, valS, val2, keepE, restrict, finA, resA, binA, binInt, ofConst, ofConst1, loadA, TK.isAgg, asVar, unA, builtinA, lenOpA, lenA, ileb_cast, ileb_eq, ieqb_dec, indexAddrA, inB_dec, evPairs, storeA, AV.cellsOf, pairsOf, xI_nil, binBool, gcE, evOpt, tagZ, xI_block, xI_loopH, xI_condM, xI_exitM, xI_skip, xI_blk, exitA, ty2, ty3, ty4, ty5, ty9, ty27, ty36, eK75_0_0, runTr, pairsOk, pairOk, lstAt, lastOf, sameVal, AV.eqv, eqvs, eqvs_ints, regOps, blt_dec, cond_true, cond_false, fieldAddrA, allOne, AV.one, buildA, sizesOf, fillA, putCells, n_push, indexA, ty2, ty27, ty9, ty5, ty3, ty36]
      simp only [R75_0_0, b75, Tryd.f75, Option.getD, fstC, sndC, bodyC, thnC, elsC]
      simp [xI_seq, xI_region, xI_ret, regA, regOps, runOps, opStep, wantedA, opA, evo, evos, calleeA, lk, nif_eq, putE, paramsE, valS, val2, keepE, restrict, finA, resA, binA, binInt, ofConst, ofConst1, loadA, TK.isAgg, asVar, unA, builtinA, lenOpA, lenA, ileb_cast, ileb_eq, ieqb_dec, indexAddrA, inB_dec, evPairs, storeA, AV.cellsOf, pairsOf, xI_nil, binBool, gcE, evOpt, tagZ, xI_block, xI_loopH, xI_condM, xI_exitM, xI_skip, xI_blk, exitA, ty2, ty3, ty4, ty5, ty9, ty27, ty36, eK75_0_0, runTr, pairsOk, pairOk, lstAt, lastOf, sameVal, AV.eqv, eqvs, eqvs_ints, regOps, blt_dec, cond_true, cond_false, fieldAddrA, allOne, AV.one, buildA, sizesOf, fillA, putCells, n_push, indexA, ty2, ty27, ty9, ty5, ty3, ty36, c3, c4, s2, p2]
    · have hv : srV l = .tup [.agg [.int .i64 0, .int .i64 0], .int .i64 0, .bool false] := by rw [srV, if_neg (fun h => hw h.2)]
      have hw' : (16 : Int) < (bmL l : Int) := by omega
      have hw'' : 16 < bmL l := by omega
      refine ⟨σ1, ?_⟩
      rw [hv]
      simp [xI_seq, xI_region, xI_ret, regA, regOps, runOps, opStep, wantedA, opA, evo, evos, calleeA, lk, nif_eq, putE, paramsE, valS, val2, keepE, restrict, finA, resA, binA, binInt, ofConst, ofConst1, loadA, TK.isAgg, asVar, unA, builtinA, lenOpA, lenA, ileb_cast, ileb_eq, ieqb_dec, indexAddrA, inB_dec, evPairs, storeA, AV.cellsOf, pairsOf, xI_nil, binBool, gcE, evOpt, tagZ, xI_block, xI_loopH, xI_condM, xI_exitM, xI_skip, xI_blk, exitA, ty2, ty3, ty4, ty5, ty9, ty27, ty36, eK75_0_0, runTr, pairsOk, pairOk, lstAt, lastOf, sameVal, AV.eqv, eqvs, eqvs_ints, regOps, blt_dec, cond_true, cond_false, fieldAddrA, allOne, AV.one, buildA, sizesOf, fillA, putCells, n_push, indexA, ty2, ty27, ty9, ty5, ty3, ty36, hσ, c1, c2, hw', hw'', s1, p1]

open Go.Wd
noncomputable def b127 : Code := Tryd.f127.body.getD .skip
noncomputable def B127_0 : Code := (bodyC (bodyC (sndC (fstC (sndC (sndC b127))))))
noncomputable def K127_0 : List It := .lp B127_0 :: .blk 0 :: .code (sndC (sndC (sndC b127))) :: []
theorem xl127_0 {fi : FI} {env : Env} {σ : St} : exI TT fi K127_0 env σ = exI TT fi (.code B127_0 :: K127_0) env σ := by unfold K127_0; exact xI_lp
noncomputable def R127_0_0 : List It := .code (sndC (sndC (sndC b127))) :: []
theorem eK127_0_0 : exitA 0 K127_0 = some R127_0_0 := rfl
set_option maxHeartbeats 1000000 in
theorem l127 (R : List Nat) (hR : ∀ r ∈ R, r < 65536) (len : Nat) (hlen : len = R.length) (hl16 : len ≤ 16) (s : Nat) (hs : s < 2 ^ 62) (σ : St) : ∀ (suf pre : List Nat) (out : Nat), R = pre ++ suf → out < 2 ^ pre.length →
    exI TT (FI.of Tryd.f127 (TT.an 127)) K127_0 [(1, .int .i64 s), (5, .int .i64 out), (8, .lst len (ints (nints R))), (9, .int .i64 len), (10, .int .i64 pre.length)] σ = some (.int .i64 (addN out (mulN (pw pre.length) (app suf s)) : Nat), σ) := by
  intro suf
  induction suf with
  | nil =>
    intro pre out hp ho
    have hx : addN out (mulN (pw pre.length) (app [] s)) = out := by simp [addN, mulN, app]
    have hl : len = pre.length := by rw [hlen, hp]; simp
    subst hl
    rw [fi127]
    rw [xl127_0]
    simp only [B127_0, b127, Tryd.f127, Option.getD, fstC, sndC, bodyC, thnC, elsC]
    simp [xI_seq, xI_region, xI_ret, regA, regOps, runOps, opStep, wantedA, opA, evo, evos, calleeA, lk, nif_eq, putE, paramsE, valS, val2, keepE, restrict, finA, resA, binA, binInt, ofConst, ofConst1, loadA, TK.isAgg, asVar, unA, builtinA, lenOpA, lenA, ileb_cast, ileb_eq, ieqb_dec, indexAddrA, inB_dec, evPairs, storeA, AV.cellsOf, pairsOf, xI_nil, binBool, gcE, evOpt, tagZ, xI_block, xI_loopH, xI_condM, xI_exitM, xI_skip, xI_blk, exitA, ty2, ty3, ty24, eK127_0_0]
    simp only [R127_0_0, b127, Tryd.f127, Option.getD, fstC, sndC, bodyC, thnC, elsC]
    simp [xI_seq, xI_region, xI_ret, regA, regOps, runOps, opStep, wantedA, opA, evo, evos, calleeA, lk, nif_eq, putE, paramsE, valS, val2, keepE, restrict, finA, resA, binA, binInt, ofConst, ofConst1, loadA, TK.isAgg, asVar, unA, builtinA, lenOpA, lenA, ileb_cast, ileb_eq, ieqb_dec, indexAddrA, inB_dec, evPairs, storeA, AV.cellsOf, pairsOf, xI_nil, binBool, gcE, evOpt, tagZ, xI_block, xI_loopH, xI_condM, xI_exitM, xI_skip, xI_blk, exitA, ty2, ty3, ty24, eK127_0_0, hx]
  | cons r suf ih =>
    intro pre out hp ho
    have hll : len = pre.length + (suf.length + 1) := by rw [hlen, hp]; simp
    have hr : r < 65536 := hR r (by simp [hp])
    have hrs : andN r s < 65536 := Nat.lt_of_le_of_lt Nat.and_le_left hr
    have hg : (nints R)[pre.length]? = some (r : Int) := nints_get (by simp [hp])
    have hlt : ¬ len ≤ pre.length := by omega
    have hlt2 : pre.length < len := by omega
    have hw := wrapS (n := pre.length) (by omega)
    have hcu : wrapA .u64 ((pre.length : Nat) : Int) = ((pre.length : Nat) : Int) := n_wrapu (by omega)
    have h16 : 2 ^ pre.length ≤ 2 ^ 16 := Nat.pow_le_pow_right (by decide) (by omega)
    have a1 := n_and (a := r) (b := s) (by omega) (lt_62 hs)
    have a2 := c126 (andN r s) hrs σ
    have hpl := par_lt (andN r s)
    have hps : par (andN r s) * 2 ^ pre.length ≤ 1 * 2 ^ pre.length := Nat.mul_le_mul_right _ (by omega)
    have a3 := sh_l (a := par (andN r s)) (b := pre.length) (by omega) (by omega)
    have a4 := n_or (a := out) (b := shlN (par (andN r s)) pre.length) (by omega) (by show par (andN r s) * 2 ^ pre.length ≤ _; omega)
    have e1 : orN out (shlN (par (andN r s)) pre.length) = out + 2 ^ pre.length * par (andN r s) := or_shift ho
    have e2 : orN out (shlN (par (andN r s)) pre.length) < 2 ^ (pre ++ [r]).length := by
      rw [e1, List.length_append, List.length_singleton, Nat.pow_succ, Nat.mul_comm]; omega
    have h1 := ih (pre ++ [r]) _ (by simp [hp]) e2
    rw [show addN (orN out (shlN (par (andN r s)) pre.length)) (mulN (pw (pre ++ [r]).length) (app suf s)) = addN out (mulN (pw pre.length) (app (r :: suf) s)) by
      rw [e1]; show _ + 2 ^ (pre ++ [r]).length * app suf s = out + 2 ^ pre.length * (par (r &&& s) + 2 * app suf s)
      rw [List.length_append, List.length_singleton, Nat.pow_succ, Nat.mul_add, Nat.mul_assoc, Nat.add_assoc]; rfl] at h1
    simp only [List.length_append, List.length_singleton] at h1
    rw [fi127] at h1 ⊢
    rw [xl127_0]
    simp only [B127_0, b127, Tryd.f127, Option.getD, fstC, sndC, bodyC, thnC, elsC]
    simp [xI_seq, xI_region, xI_ret, regA, regOps, runOps, opStep, wantedA, opA, evo, evos, calleeA, lk, nif_eq, putE, paramsE, valS, val2, keepE, restrict, finA, resA, binA, binInt, ofConst, ofConst1, loadA, TK.isAgg, asVar, unA, builtinA, lenOpA, lenA, ileb_cast, ileb_eq, ieqb_dec, indexAddrA, inB_dec, evPairs, storeA, AV.cellsOf, pairsOf, xI_nil, binBool, gcE, evOpt, tagZ, xI_block, xI_loopH, xI_condM, xI_exitM, xI_skip, xI_blk, exitA, ty2, ty3, ty24, eK127_0_0, hw, hlt, hlt2, a1, a2, a3, a4, lst_read hg]
    simpa using h1
theorem v127 (R : List Nat) (hR : ∀ r ∈ R, r < 65536) (hl16 : R.length ≤ 16) (s : Nat) (hs : s < 2 ^ 62) : FnV TT 127 [.lst R.length (ints (nints R)), .int .i64 s] (.int .i64 (app R s : Nat)) := by
  refine FnV.mk fn127 rfl md127 ⟨⟨[], 0⟩, ?_⟩ (fun _ => rfl) rfl
  have h := l127 R hR R.length rfl hl16 s hs ⟨[], 0⟩ R [] 0 rfl (by decide)
  rw [show addN 0 (mulN (pw ([] : List Nat).length) (app R s)) = app R s by simp [addN, mulN, pw]] at h
  rw [← h, fi127]
  simp [xI_seq, xI_region, xI_ret, regA, regOps, runOps, opStep, wantedA, opA, evo, evos, calleeA, lk, nif_eq, putE, paramsE, valS, val2, keepE, restrict, finA, resA, binA, binInt, ofConst, ofConst1, loadA, TK.isAgg, asVar, unA, builtinA, lenOpA, lenA, ileb_cast, ileb_eq, ieqb_dec, indexAddrA, inB_dec, evPairs, storeA, AV.cellsOf, pairsOf, xI_nil, binBool, gcE, evOpt, tagZ, xI_block, xI_loopH, xI_condM, xI_exitM, xI_skip, xI_blk, exitA, ty2, ty3, ty24, eK127_0_0]
  rfl

noncomputable def b160 : Code := Tryd.f160.body.getD .skip
noncomputable def B160_0 : Code := (bodyC (bodyC (sndC (fstC (sndC (sndC b160))))))
noncomputable def K160_0 : List It := .lp B160_0 :: .blk 0 :: .code (sndC (sndC (sndC b160))) :: []
theorem xl160_0 {fi : FI} {env : Env} {σ : St} : exI TT fi K160_0 env σ = exI TT fi (.code B160_0 :: K160_0) env σ := by unfold K160_0; exact xI_lp
noncomputable def R160_0_0 : List It := .code (sndC (sndC (sndC b160))) :: []
theorem eK160_0_0 : exitA 0 K160_0 = some R160_0_0 := rfl
set_option maxHeartbeats 1000000 in
theorem l160 (R : List Nat) (hR : ∀ r ∈ R, r < 65536) (len : Nat) (hlen : len = R.length) (hl16 : len ≤ 16) (s : Nat) (hs : s < 2 ^ 62) (σ : St) : ∀ (suf pre : List Nat) (out : Nat), R = pre ++ suf → out < 2 ^ pre.length →
    exI TT (FI.of Tryd.f160 (TT.an 160)) K160_0 [(0, .lst len (ints (nints R))), (1, .int .i64 s), (5, .int .i64 out), (6, .int .i64 pre.length)] σ = some (.int .i64 (addN out (mulN (pw pre.length) (app suf s)) : Nat), σ) := by
  intro suf
  induction suf with
  | nil =>
    intro pre out hp ho
    have hx : addN out (mulN (pw pre.length) (app [] s)) = out := by simp [addN, mulN, app]
    have hl : len = pre.length := by rw [hlen, hp]; simp
    subst hl
    rw [fi160]
    rw [xl160_0]
    simp only [B160_0, b160, Tryd.f160, Option.getD, fstC, sndC, bodyC, thnC, elsC]
    simp [xI_seq, xI_region, xI_ret, regA, regOps, runOps, opStep, wantedA, opA, evo, evos, calleeA, lk, nif_eq, putE, paramsE, valS, val2, keepE, restrict, finA, resA, binA, binInt, ofConst, ofConst1, loadA, TK.isAgg, asVar, unA, builtinA, lenOpA, lenA, ileb_cast, ileb_eq, ieqb_dec, indexAddrA, inB_dec, evPairs, storeA, AV.cellsOf, pairsOf, xI_nil, binBool, gcE, evOpt, tagZ, xI_block, xI_loopH, xI_condM, xI_exitM, xI_skip, xI_blk, exitA, ty2, ty3, ty24, ty36, eK160_0_0]
    simp only [R160_0_0, b160, Tryd.f160, Option.getD, fstC, sndC, bodyC, thnC, elsC]
    simp [xI_seq, xI_region, xI_ret, regA, regOps, runOps, opStep, wantedA, opA, evo, evos, calleeA, lk, nif_eq, putE, paramsE, valS, val2, keepE, restrict, finA, resA, binA, binInt, ofConst, ofConst1, loadA, TK.isAgg, asVar, unA, builtinA, lenOpA, lenA, ileb_cast, ileb_eq, ieqb_dec, indexAddrA, inB_dec, evPairs, storeA, AV.cellsOf, pairsOf, xI_nil, binBool, gcE, evOpt, tagZ, xI_block, xI_loopH, xI_condM, xI_exitM, xI_skip, xI_blk, exitA, ty2, ty3, ty24, ty36, eK160_0_0, hx]
  | cons r suf ih =>
    intro pre out hp ho
    have hll : len = pre.length + (suf.length + 1) := by rw [hlen, hp]; simp
    have hr : r < 65536 := hR r (by simp [hp])
    have hrs : andN r s < 65536 := Nat.lt_of_le_of_lt Nat.and_le_left hr
    have hg : (nints R)[pre.length]? = some (r : Int) := nints_get (by simp [hp])
    have hlt : ¬ len ≤ pre.length := by omega
    have hlt2 : pre.length < len := by omega
    have hw := wrapS (n := pre.length) (by omega)
    have hcu : wrapA .u64 ((pre.length : Nat) : Int) = ((pre.length : Nat) : Int) := n_wrapu (by omega)
    have h16 : 2 ^ pre.length ≤ 2 ^ 16 := Nat.pow_le_pow_right (by decide) (by omega)
    have a1 := n_and (a := r) (b := s) (by omega) (lt_62 hs)
    have a2 := v112 (andN r s) (Nat.lt_of_lt_of_le hrs (by decide)) σ [.int .i64 ((andN r s : Nat) : Int)] rfl
    have hpl := par_lt (andN r s)
    have hps : par (andN r s) * 2 ^ pre.length ≤ 1 * 2 ^ pre.length := Nat.mul_le_mul_right _ (by omega)
    have a3 := sh_l (a := par (andN r s)) (b := pre.length) (by omega) (by omega)
    have a4 := n_or (a := out) (b := shlN (par (andN r s)) pre.length) (by omega) (by show par (andN r s) * 2 ^ pre.length ≤ _; omega)
    have e1 : orN out (shlN (par (andN r s)) pre.length) = out + 2 ^ pre.length * par (andN r s) := or_shift ho
    have e2 : orN out (shlN (par (andN r s)) pre.length) < 2 ^ (pre ++ [r]).length := by
      rw [e1, List.length_append, List.length_singleton, Nat.pow_succ, Nat.mul_comm]; omega
    have h1 := ih (pre ++ [r]) _ (by simp [hp]) e2
    rw [show addN (orN out (shlN (par (andN r s)) pre.length)) (mulN (pw (pre ++ [r]).length) (app suf s)) = addN out (mulN (pw pre.length) (app (r :: suf) s)) by
      rw [e1]; show _ + 2 ^ (pre ++ [r]).length * app suf s = out + 2 ^ pre.length * (par (r &&& s) + 2 * app suf s)
      rw [List.length_append, List.length_singleton, Nat.pow_succ, Nat.mul_add, Nat.mul_assoc, Nat.add_assoc]; rfl] at h1
    simp only [List.length_append, List.length_singleton] at h1
    rw [fi160] at h1 ⊢
    rw [xl160_0]
    simp only [B160_0, b160, Tryd.f160, Option.getD, fstC, sndC, bodyC, thnC, elsC]
    simp [xI_seq, xI_region, xI_ret, regA, regOps, runOps, opStep, wantedA, opA, evo, evos, calleeA, lk, nif_eq, putE, paramsE, valS, val2, keepE, restrict, finA, resA, binA, binInt, ofConst, ofConst1, loadA, TK.isAgg, asVar, unA, builtinA, lenOpA, lenA, ileb_cast, ileb_eq, ieqb_dec, indexAddrA, inB_dec, evPairs, storeA, AV.cellsOf, pairsOf, xI_nil, binBool, gcE, evOpt, tagZ, xI_block, xI_loopH, xI_condM, xI_exitM, xI_skip, xI_blk, exitA, ty2, ty3, ty24, ty36, eK160_0_0, hw, hlt, hlt2, a1, a2, a3, a4, lst_read hg, hcu, convA]
    simpa using h1
theorem v160 (R : List Nat) (hR : ∀ r ∈ R, r < 65536) (hl16 : R.length ≤ 16) (s : Nat) (hs : s < 2 ^ 62) : FnV TT 160 [.lst R.length (ints (nints R)), .int .i64 s] (.int .i64 (app R s : Nat)) := by
  refine FnV.mk fn160 rfl md160 ⟨⟨[], 0⟩, ?_⟩ (fun _ => rfl) rfl
  have h := l160 R hR R.length rfl hl16 s hs ⟨[], 0⟩ R [] 0 rfl (by decide)
  rw [show addN 0 (mulN (pw ([] : List Nat).length) (app R s)) = app R s by simp [addN, mulN, pw]] at h
  rw [← h, fi160]
  simp [xI_seq, xI_region, xI_ret, regA, regOps, runOps, opStep, wantedA, opA, evo, evos, calleeA, lk, nif_eq, putE, paramsE, valS, val2, keepE, restrict, finA, resA, binA, binInt, ofConst, ofConst1, loadA, TK.isAgg, asVar, unA, builtinA, lenOpA, lenA, ileb_cast, ileb_eq, ieqb_dec, indexAddrA, inB_dec, evPairs, storeA, AV.cellsOf, pairsOf, xI_nil, binBool, gcE, evOpt, tagZ, xI_block, xI_loopH, xI_condM, xI_exitM, xI_skip, xI_blk, exitA, ty2, ty3, ty24, ty36, eK160_0_0]
  rfl

open Go.Wd
/-- A machine's cells. -/
def lin (w : Int) (R : List Int) (o : Int) : List AV := [.int .i64 w, .lst R.length (ints R), .int .i64 o]
/-- Whether a machine is valid. -/
def vlin (w : Int) (R : List Int) (o : Int) : Bool := inR w 1 16 && decide ((R.length : Int) = w) && allR R 0 (((pw w.toNat : Nat) : Int) - 1) && inR o 0 (((pw w.toNat : Nat) : Int) - 1)
/-- Whether it is, and a number is a state of it. -/
def vst (w : Int) (R : List Int) (o s : Int) : Bool := vlin w R o && inR s 0 (((pw w.toNat : Nat) : Int) - 1)
theorem vlin_nat {w : Int} {R : List Int} {o : Int} (h : vlin w R o = true) : ∃ (A : List Nat) (k : Nat), w = (A.length : Int) ∧ R = nints A ∧ o = (k : Int) ∧ 1 ≤ A.length ∧ A.length ≤ 16 ∧ (∀ r ∈ A, r < pw A.length) ∧ k < pw A.length := by
  simp only [vlin, Bool.and_eq_true, decide_eq_true_eq] at h
  obtain ⟨⟨⟨h1, h2⟩, h3⟩, h4⟩ := h
  have h1 := inR_iff.1 h1
  have h4 := inR_iff.1 h4
  have h3 := allR_spec h3
  obtain ⟨A, rfl⟩ := of_nonneg (l := R) fun x hx => (h3 x hx).1
  rw [nints_length] at h2
  obtain rfl := h2.symm
  refine ⟨A, o.toNat, rfl, rfl, by omega, by omega, by omega, fun r hr => ?_, ?_⟩
  · have := h3 r (List.mem_map.2 ⟨r, hr, rfl⟩)
    simp only [Int.toNat_natCast] at this
    omega
  · simp only [Int.toNat_natCast] at h4
    omega
theorem vst_nat {w : Int} {R : List Int} {o s : Int} (h : vst w R o s = true) : ∃ (A : List Nat) (k t : Nat), w = (A.length : Int) ∧ R = nints A ∧ o = (k : Int) ∧ s = (t : Int) ∧ 1 ≤ A.length ∧ A.length ≤ 16 ∧ (∀ r ∈ A, r < pw A.length) ∧ k < pw A.length ∧ t < pw A.length := by
  simp only [vst, Bool.and_eq_true] at h
  obtain ⟨A, k, h1, h2, h3, h4, h5, h6, h7⟩ := vlin_nat h.1
  have := inR_iff.1 h.2
  refine ⟨A, k, s.toNat, h1, h2, h3, by omega, h4, h5, h6, h7, ?_⟩
  rw [h1, Int.toNat_natCast] at this
  omega
theorem v73 (n m : Nat) (l : List Int) (hn : n ≤ 9223372036854775807) (hm : m < 1000000000000) : FnV TT 73 [.lst n (ints l), .int .i64 m] (.int .i64 (if n ≤ m then (m : Int) - n else -1)) := by
  refine FnV.mk fn73 rfl md73 ⟨⟨[], 0⟩, ?_⟩ (fun _ => rfl) rfl
  have h := wrapA_id (n := (m : Int) - n) (by omega) (by omega)
  rw [fi73]
  by_cases hl : n ≤ m
  · have h1 : ¬ ((m : Int) - n < 0) := by omega
    simp [xI_seq, xI_region, xI_ret, regA, regOps, runOps, opStep, wantedA, opA, evo, evos, calleeA, lk, nif_eq, putE, paramsE, valS, val2, keepE, restrict, finA, resA, binA, binInt, ofConst, ofConst1, loadA, TK.isAgg, asVar, unA, builtinA, lenOpA, lenA, ileb_cast, ileb_eq, ieqb_dec, indexAddrA, inB_dec, evPairs, storeA, AV.cellsOf, pairsOf, xI_nil, binBool, gcE, evOpt, tagZ, xI_block, xI_loopH, xI_condM, xI_exitM, xI_skip, xI_blk, exitA, ty2, ty3, ty24, h, h1, hl]
  · have h1 : (m : Int) - n < 0 := by omega
    simp [xI_seq, xI_region, xI_ret, regA, regOps, runOps, opStep, wantedA, opA, evo, evos, calleeA, lk, nif_eq, putE, paramsE, valS, val2, keepE, restrict, finA, resA, binA, binInt, ofConst, ofConst1, loadA, TK.isAgg, asVar, unA, builtinA, lenOpA, lenA, ileb_cast, ileb_eq, ieqb_dec, indexAddrA, inB_dec, evPairs, storeA, AV.cellsOf, pairsOf, xI_nil, binBool, gcE, evOpt, tagZ, xI_block, xI_loopH, xI_condM, xI_exitM, xI_skip, xI_blk, exitA, ty2, ty3, ty24, h, h1, hl]

theorem v28 (w : Int) (l : List Int) (o : Int) (m : Nat) (hn : l.length ≤ 9223372036854775807) (hm : m < 1000000000000) : FnV TT 28 [.agg (lin w l o), .int .i64 m] (.int .i64 (if l.length ≤ m then (m : Int) - l.length else -1)) := by
  refine FnV.mk fn28 rfl md28 ⟨(⟨[], 0⟩ : St).push ⟨lin w l o, 3, false⟩, ?_⟩ (fun _ => rfl) rfl
  have h := v73 l.length m l hn hm ((⟨[], 0⟩ : St).push ⟨lin w l o, 3, false⟩) [.lst l.length (ints l), .int .i64 m] rfl
  have hg : ((⟨[], 0⟩ : St).push ⟨lin w l o, 3, false⟩).get 0 = some ⟨lin w l o, 3, false⟩ := rfl
  rw [fi28]
  by_cases hl : l.length ≤ m
  · have h1 : ¬ ((m : Int) - l.length < 0) := by omega
    rw [if_pos hl] at h
    simp only [lin] at h hg ⊢
    simp [xI_seq, xI_region, xI_ret, regA, regOps, runOps, opStep, wantedA, opA, evo, evos, calleeA, lk, nif_eq, putE, paramsE, valS, val2, keepE, restrict, finA, resA, binA, binInt, ofConst, ofConst1, loadA, TK.isAgg, asVar, unA, builtinA, lenOpA, lenA, ileb_cast, ileb_eq, ieqb_dec, indexAddrA, inB_dec, evPairs, storeA, AV.cellsOf, pairsOf, xI_nil, binBool, gcE, evOpt, tagZ, xI_block, xI_loopH, xI_condM, xI_exitM, xI_skip, xI_blk, exitA, ty2, ty3, ty24, ty48, h, h1, hl, cellsAt, getCells, takeN, dropN, fieldAddrA, allOne, AV.one, n_push, storeCellsA, putN, overN, ty2, ty24, ty48, ty51, hg]
  · have h1 : ¬ (0 : Int) ≤ -1 := by omega
    rw [if_neg hl] at h
    simp only [lin] at h hg ⊢
    simp [xI_seq, xI_region, xI_ret, regA, regOps, runOps, opStep, wantedA, opA, evo, evos, calleeA, lk, nif_eq, putE, paramsE, valS, val2, keepE, restrict, finA, resA, binA, binInt, ofConst, ofConst1, loadA, TK.isAgg, asVar, unA, builtinA, lenOpA, lenA, ileb_cast, ileb_eq, ieqb_dec, indexAddrA, inB_dec, evPairs, storeA, AV.cellsOf, pairsOf, xI_nil, binBool, gcE, evOpt, tagZ, xI_block, xI_loopH, xI_condM, xI_exitM, xI_skip, xI_blk, exitA, ty2, ty3, ty24, ty48, h, h1, hl, cellsAt, getCells, takeN, dropN, fieldAddrA, allOne, AV.one, n_push, storeCellsA, putN, overN, ty2, ty24, ty48, ty51, hg]

theorem tol30 (w : Int) (l : List Int) (o : Int) (hn : l.length < 1000000000000) : FnF TT 30 [.agg (lin w l o)] (.agg (lin w l o)) := by
  have hc : ∀ σ : St, ∃ q : Bool, callI TT 77 [.lst l.length (ints l)] σ = some (.sl σ.n 0 l.length l.length, σ.push ⟨ints l, 1, q⟩) := fun σ => s77 l l.length rfl hn σ _ rfl
  obtain ⟨q, hc⟩ := Classical.skolem.1 hc
  have hz : getCells (ints l) 0 l.length = some (ints l) := getCells_full rfl
  refine FnF.mk fn30 rfl md30 ?_
  rw [fi30]
  simp only [lin]
  simp [xI_seq, xI_region, xI_ret, regA, regOps, runOps, opStep, wantedA, opA, evo, evos, calleeA, lk, nif_eq, putE, paramsE, valS, val2, keepE, restrict, finA, resA, binA, binInt, ofConst, ofConst1, loadA, TK.isAgg, asVar, unA, builtinA, lenOpA, lenA, ileb_cast, ileb_eq, ieqb_dec, indexAddrA, inB_dec, evPairs, storeA, AV.cellsOf, pairsOf, xI_nil, binBool, gcE, evOpt, tagZ, xI_block, xI_loopH, xI_condM, xI_exitM, xI_skip, xI_blk, exitA, ty2, ty24, ty48, ty51, cellsAt, getCells, takeN, dropN, fieldAddrA, allOne, AV.one, n_push, storeCellsA, putN, overN, ty2, ty24, ty48, ty51, St.push, St.get, St.set, hget, hset, hc]
  exact ⟨_, _, ⟨rfl, rfl⟩, frzV_agg (mapO_cons rfl (mapO_cons (frzV_sl (l := l) rfl rfl (Nat.le_refl _)) (mapO_cons rfl rfl)))⟩

theorem v33 (w : Int) (l : List Int) (o : Int) (hn : l.length < 1000000000000) : FnV TT 33 [.agg (lin w l o), .agg (lin w l o)] (.bool true) := by
  have hc : ∀ σ : St, callI TT 15 [.lst l.length (ints l), .lst l.length (ints l)] σ = some (.bool true, σ) := fun σ => by
    have := v15 l l l.length l.length rfl rfl hn σ [.lst l.length (ints l), .lst l.length (ints l)] rfl
    simpa using this
  refine FnV.mk fn33 rfl md33 ⟨((⟨[], 0⟩ : St).push ⟨lin w l o, 3, false⟩).push ⟨lin w l o, 3, false⟩, ?_⟩ (fun _ => rfl) rfl
  rw [fi33]
  simp only [lin]
  simp [xI_seq, xI_region, xI_ret, regA, regOps, runOps, opStep, wantedA, opA, evo, evos, calleeA, lk, nif_eq, putE, paramsE, valS, val2, keepE, restrict, finA, resA, binA, binInt, ofConst, ofConst1, loadA, TK.isAgg, asVar, unA, builtinA, lenOpA, lenA, ileb_cast, ileb_eq, ieqb_dec, indexAddrA, inB_dec, evPairs, storeA, AV.cellsOf, pairsOf, xI_nil, binBool, gcE, evOpt, tagZ, xI_block, xI_loopH, xI_condM, xI_exitM, xI_skip, xI_blk, exitA, ty2, ty4, ty24, ty51, cellsAt, getCells, takeN, dropN, fieldAddrA, allOne, AV.one, n_push, storeCellsA, putN, overN, ty2, ty24, ty48, ty51, St.push, St.get, St.set, hget, hset, hc]

noncomputable def b119 : Code := Tryd.f119.body.getD .skip
noncomputable def B119_0 : Code := (bodyC (bodyC (sndC (fstC (sndC (sndC b119))))))
noncomputable def K119_0 : List It := .lp B119_0 :: .blk 0 :: .code (sndC (sndC (sndC b119))) :: []
theorem xl119_0 {fi : FI} {env : Env} {σ : St} : exI TT fi K119_0 env σ = exI TT fi (.code B119_0 :: K119_0) env σ := by unfold K119_0; exact xI_lp
noncomputable def R119_0_0 : List It := .code (sndC (sndC (sndC b119))) :: []
theorem eK119_0_0 : exitA 0 K119_0 = some R119_0_0 := rfl
theorem l119 (R : List Int) (k : Nat) (hk : k ≤ 16) (hs : R.length < 1000000000000) (o : Int) (σ : St) (b : Nat) (x : Blk) (hb : σ.get b = some x) (hx : x.cells = lin k R o) : ∀ (suf pre : List Int), R = pre ++ suf →
    exI TT (FI.of Tryd.f119 (TT.an 119)) K119_0 [(0, .ptr b 0), (3, .int .i64 pre.length)] σ = some (.bool (allR suf 0 (((pw k : Nat) : Int) - 1)), σ) := by
  intro suf
  induction suf with
  | nil =>
    intro pre hp
    have hl : R.length = pre.length := by rw [hp]; simp
    simp only [lin] at hx
    rw [fi119]
    rw [xl119_0]
    simp only [B119_0, b119, Tryd.f119, Option.getD, fstC, sndC, bodyC, thnC, elsC]
    simp [xI_seq, xI_region, xI_ret, regA, regOps, runOps, opStep, wantedA, opA, evo, evos, calleeA, lk, nif_eq, putE, paramsE, valS, val2, keepE, restrict, finA, resA, binA, binInt, ofConst, ofConst1, loadA, TK.isAgg, asVar, unA, builtinA, lenOpA, lenA, ileb_cast, ileb_eq, ieqb_dec, indexAddrA, inB_dec, evPairs, storeA, AV.cellsOf, pairsOf, xI_nil, binBool, gcE, evOpt, tagZ, xI_block, xI_loopH, xI_condM, xI_exitM, xI_skip, xI_blk, exitA, ty2, ty3, ty4, ty24, ty51, eK119_0_0, cellsAt, getCells, takeN, dropN, fieldAddrA, allOne, AV.one, n_push, storeCellsA, putN, overN, ty2, ty24, ty48, ty51, hb, hx, hl]
    simp only [R119_0_0, b119, Tryd.f119, Option.getD, fstC, sndC, bodyC, thnC, elsC]
    simp [xI_seq, xI_region, xI_ret, regA, regOps, runOps, opStep, wantedA, opA, evo, evos, calleeA, lk, nif_eq, putE, paramsE, valS, val2, keepE, restrict, finA, resA, binA, binInt, ofConst, ofConst1, loadA, TK.isAgg, asVar, unA, builtinA, lenOpA, lenA, ileb_cast, ileb_eq, ieqb_dec, indexAddrA, inB_dec, evPairs, storeA, AV.cellsOf, pairsOf, xI_nil, binBool, gcE, evOpt, tagZ, xI_block, xI_loopH, xI_condM, xI_exitM, xI_skip, xI_blk, exitA, ty2, ty3, ty4, ty24, ty51, eK119_0_0, cellsAt, getCells, takeN, dropN, fieldAddrA, allOne, AV.one, n_push, storeCellsA, putN, overN, ty2, ty24, ty48, ty51, allR]
  | cons n suf ih =>
    intro pre hp
    have hll : R.length = pre.length + (suf.length + 1) := by rw [hp]; simp
    have hg : R[pre.length]? = some n := by simp [hp]
    have h1 := ih (pre ++ [n]) (by simp [hp])
    have hlt : ¬ R.length ≤ pre.length := by omega
    have hlt2 : pre.length < R.length := by omega
    have hw := wrapS (n := pre.length) (by omega)
    have hc := c111 k hk n σ
    simp only [List.length_append, List.length_singleton] at h1
    have hx' := hx
    simp only [lin] at hx'
    have hrd : ∀ σ, cellsAt σ (.lp (ints R) pre.length) 1 = some [.int .i64 n] := fun σ => lst_read hg
    have hcp : cellsAt σ (.ptr b 0) 1 = some [.int .i64 k] := by simp [cellsAt, hb, hx', getCells, takeN, dropN]
    have hcp1 : cellsAt σ (.ptr b 1) 1 = some [.lst R.length (ints R)] := by simp [cellsAt, hb, hx', getCells, takeN, dropN]
    cases hin : inR n 0 (((pw k : Nat) : Int) - 1) with
    | true =>
      rw [hin] at hc
      rw [fi119] at h1 ⊢
      rw [xl119_0]
      simp only [B119_0, b119, Tryd.f119, Option.getD, fstC, sndC, bodyC, thnC, elsC]
      simp [xI_seq, xI_region, xI_ret, regA, regOps, runOps, opStep, wantedA, opA, evo, evos, calleeA, lk, nif_eq, putE, paramsE, valS, val2, keepE, restrict, finA, resA, binA, binInt, ofConst, ofConst1, loadA, TK.isAgg, asVar, unA, builtinA, lenOpA, lenA, ileb_cast, ileb_eq, ieqb_dec, indexAddrA, inB_dec, evPairs, storeA, AV.cellsOf, pairsOf, xI_nil, binBool, gcE, evOpt, tagZ, xI_block, xI_loopH, xI_condM, xI_exitM, xI_skip, xI_blk, exitA, ty2, ty3, ty4, ty24, ty51, eK119_0_0, fieldAddrA, ty2, ty24, ty48, ty51, hcp, hcp1, hrd, hc, hlt, hlt2, hw]
      simpa [allR, hin] using h1
    | false =>
      rw [hin] at hc
      rw [fi119]
      rw [xl119_0]
      simp only [B119_0, b119, Tryd.f119, Option.getD, fstC, sndC, bodyC, thnC, elsC]
      simp [xI_seq, xI_region, xI_ret, regA, regOps, runOps, opStep, wantedA, opA, evo, evos, calleeA, lk, nif_eq, putE, paramsE, valS, val2, keepE, restrict, finA, resA, binA, binInt, ofConst, ofConst1, loadA, TK.isAgg, asVar, unA, builtinA, lenOpA, lenA, ileb_cast, ileb_eq, ieqb_dec, indexAddrA, inB_dec, evPairs, storeA, AV.cellsOf, pairsOf, xI_nil, binBool, gcE, evOpt, tagZ, xI_block, xI_loopH, xI_condM, xI_exitM, xI_skip, xI_blk, exitA, ty2, ty3, ty4, ty24, ty51, eK119_0_0, fieldAddrA, ty2, ty24, ty48, ty51, hcp, hcp1, hrd, hc, hlt, hlt2, hw]
      simp [allR, hin]

theorem c119 (w : Int) (R : List Int) (o : Int) (hs : R.length < 1000000000000) (σ : St) (b : Nat) (x : Blk) (hb : σ.get b = some x) (hx : x.cells = lin w R o) : callI TT 119 [.ptr b 0] σ = some (.bool (vlin w R o), σ) := by
  have hx' := hx
  simp only [lin] at hx'
  have hcp : cellsAt σ (.ptr b 0) 1 = some [.int .i64 w] := by simp [cellsAt, hb, hx', getCells, takeN, dropN]
  have hcp1 : cellsAt σ (.ptr b 1) 1 = some [.lst R.length (ints R)] := by simp [cellsAt, hb, hx', getCells, takeN, dropN]
  have hcp2 : cellsAt σ (.ptr b 2) 1 = some [.int .i64 o] := by simp [cellsAt, hb, hx', getCells, takeN, dropN]
  have hi := c110 w 1 16 σ
  rw [cI_0 fn119 rfl md119, fi119]
  cases h1 : inR w 1 16 with
  | false =>
    rw [h1] at hi
    simp [xI_seq, xI_region, xI_ret, regA, regOps, runOps, opStep, wantedA, opA, evo, evos, calleeA, lk, nif_eq, putE, paramsE, valS, val2, keepE, restrict, finA, resA, binA, binInt, ofConst, ofConst1, loadA, TK.isAgg, asVar, unA, builtinA, lenOpA, lenA, ileb_cast, ileb_eq, ieqb_dec, indexAddrA, inB_dec, evPairs, storeA, AV.cellsOf, pairsOf, xI_nil, binBool, gcE, evOpt, tagZ, xI_block, xI_loopH, xI_condM, xI_exitM, xI_skip, xI_blk, exitA, ty2, ty3, ty4, ty24, ty51, eK119_0_0, fieldAddrA, ty2, ty24, ty48, ty51, hcp, hcp1, hcp2, hi]
    simp [vlin, h1]
  | true =>
    rw [h1] at hi
    have h1' := inR_iff.1 h1
    obtain ⟨k, rfl⟩ : ∃ k : Nat, w = k := ⟨w.toNat, by omega⟩
    have hk : k ≤ 16 := by omega
    by_cases h2 : R.length = k
    · have hc := c111 k hk o σ
      have h3 := l119 R k hk hs o σ b x hb hx R [] rfl
      rw [fi119] at h3
      cases h4 : inR o 0 (((pw k : Nat) : Int) - 1) with
      | false =>
        rw [h4] at hc
        simp [xI_seq, xI_region, xI_ret, regA, regOps, runOps, opStep, wantedA, opA, evo, evos, calleeA, lk, nif_eq, putE, paramsE, valS, val2, keepE, restrict, finA, resA, binA, binInt, ofConst, ofConst1, loadA, TK.isAgg, asVar, unA, builtinA, lenOpA, lenA, ileb_cast, ileb_eq, ieqb_dec, indexAddrA, inB_dec, evPairs, storeA, AV.cellsOf, pairsOf, xI_nil, binBool, gcE, evOpt, tagZ, xI_block, xI_loopH, xI_condM, xI_exitM, xI_skip, xI_blk, exitA, ty2, ty3, ty4, ty24, ty51, eK119_0_0, fieldAddrA, ty2, ty24, ty48, ty51, hcp, hcp1, hcp2, hi, hc, h2]
        simp [vlin, h1, h2, h4]
      | true =>
        rw [h4] at hc
        simp [xI_seq, xI_region, xI_ret, regA, regOps, runOps, opStep, wantedA, opA, evo, evos, calleeA, lk, nif_eq, putE, paramsE, valS, val2, keepE, restrict, finA, resA, binA, binInt, ofConst, ofConst1, loadA, TK.isAgg, asVar, unA, builtinA, lenOpA, lenA, ileb_cast, ileb_eq, ieqb_dec, indexAddrA, inB_dec, evPairs, storeA, AV.cellsOf, pairsOf, xI_nil, binBool, gcE, evOpt, tagZ, xI_block, xI_loopH, xI_condM, xI_exitM, xI_skip, xI_blk, exitA, ty2, ty3, ty4, ty24, ty51, eK119_0_0, fieldAddrA, ty2, ty24, ty48, ty51, hcp, hcp1, hcp2, hi, hc, h2]
        simp [vlin, h1, h2, h4]
        exact h3
    · have h2' : ¬ (R.length : Int) = k := by omega
      simp [xI_seq, xI_region, xI_ret, regA, regOps, runOps, opStep, wantedA, opA, evo, evos, calleeA, lk, nif_eq, putE, paramsE, valS, val2, keepE, restrict, finA, resA, binA, binInt, ofConst, ofConst1, loadA, TK.isAgg, asVar, unA, builtinA, lenOpA, lenA, ileb_cast, ileb_eq, ieqb_dec, indexAddrA, inB_dec, evPairs, storeA, AV.cellsOf, pairsOf, xI_nil, binBool, gcE, evOpt, tagZ, xI_block, xI_loopH, xI_condM, xI_exitM, xI_skip, xI_blk, exitA, ty2, ty3, ty4, ty24, ty51, eK119_0_0, fieldAddrA, ty2, ty24, ty48, ty51, hcp, hcp1, hcp2, hi, h2, h2']
      simp [vlin, h1, h2, h2']

theorem c74 (w : Int) (R : List Int) (o s : Int) (hs : R.length < 1000000000000) (σ : St) (b : Nat) (x : Blk) (hb : σ.get b = some x) (hx : x.cells = lin w R o) : callI TT 74 [.ptr b 0, .int .i64 s] σ = some (.bool (vst w R o s), σ) := by
  have h := c119 w R o hs σ b x hb hx
  have hx' := hx
  simp only [lin] at hx'
  have hcp : cellsAt σ (.ptr b 0) 1 = some [.int .i64 w] := by simp [cellsAt, hb, hx', getCells, takeN, dropN]
  rw [cI_0 fn74 rfl md74, fi74]
  cases h1 : vlin w R o with
  | false =>
    rw [h1] at h
    simp [xI_seq, xI_region, xI_ret, regA, regOps, runOps, opStep, wantedA, opA, evo, evos, calleeA, lk, nif_eq, putE, paramsE, valS, val2, keepE, restrict, finA, resA, binA, binInt, ofConst, ofConst1, loadA, TK.isAgg, asVar, unA, builtinA, lenOpA, lenA, ileb_cast, ileb_eq, ieqb_dec, indexAddrA, inB_dec, evPairs, storeA, AV.cellsOf, pairsOf, xI_nil, binBool, gcE, evOpt, tagZ, xI_block, xI_loopH, xI_condM, xI_exitM, xI_skip, xI_blk, exitA, ty2, ty51, fieldAddrA, ty2, ty24, ty48, ty51, hcp, h]
    simp [vst, h1]
  | true =>
    rw [h1] at h
    obtain ⟨A, k, rfl, rfl, rfl, h2, h3, _⟩ := vlin_nat h1
    have hc := c111 A.length h3 s σ
    simp [xI_seq, xI_region, xI_ret, regA, regOps, runOps, opStep, wantedA, opA, evo, evos, calleeA, lk, nif_eq, putE, paramsE, valS, val2, keepE, restrict, finA, resA, binA, binInt, ofConst, ofConst1, loadA, TK.isAgg, asVar, unA, builtinA, lenOpA, lenA, ileb_cast, ileb_eq, ieqb_dec, indexAddrA, inB_dec, evPairs, storeA, AV.cellsOf, pairsOf, xI_nil, binBool, gcE, evOpt, tagZ, xI_block, xI_loopH, xI_condM, xI_exitM, xI_skip, xI_blk, exitA, ty2, ty51, fieldAddrA, ty2, ty24, ty48, ty51, hcp, h, hc]
    simp [vst, h1]

theorem v125 (w : Int) (R : List Int) (o : Int) (hs : R.length < 3000000) : FnV TT 125 [.agg (lin w R o)] (.bool (vlin w R o)) := by
  refine FnV.mk fn125 rfl md125 ⟨(⟨[], 0⟩ : St).push ⟨lin w R o, 3, false⟩, ?_⟩ (fun _ => rfl) rfl
  generalize hσ : (⟨[], 0⟩ : St).push ⟨lin w R o, 3, false⟩ = σ
  have hcp : cellsAt σ (.ptr 0 0) 1 = some [.int .i64 w] := by subst hσ; rfl
  have hcp1 : cellsAt σ (.ptr 0 1) 1 = some [.lst R.length (ints R)] := by subst hσ; rfl
  have hcp2 : cellsAt σ (.ptr 0 2) 1 = some [.int .i64 o] := by subst hσ; rfl
  have hi := c69 w 1 16 σ
  have hl : callI TT 93 [.lst R.length (ints R)] σ = some (.int .i64 R.length, σ) := v93 R R.length σ _ rfl
  rw [fi125]
  cases h1 : inR w 1 16 with
  | false =>
    rw [h1] at hi
    simp only [lin] at hσ ⊢
    simp [xI_seq, xI_region, xI_ret, regA, regOps, runOps, opStep, wantedA, opA, evo, evos, calleeA, lk, nif_eq, putE, paramsE, valS, val2, keepE, restrict, finA, resA, binA, binInt, ofConst, ofConst1, loadA, TK.isAgg, asVar, unA, builtinA, lenOpA, lenA, ileb_cast, ileb_eq, ieqb_dec, indexAddrA, inB_dec, evPairs, storeA, AV.cellsOf, pairsOf, xI_nil, binBool, gcE, evOpt, tagZ, xI_block, xI_loopH, xI_condM, xI_exitM, xI_skip, xI_blk, exitA, ty2, ty24, ty51, runTr, pairsOk, pairOk, lstAt, lastOf, sameVal, AV.eqv, eqvs, eqvs_ints, regOps, blt_dec, cond_true, cond_false, fieldAddrA, allOne, AV.one, n_push, ty2, ty24, ty48, ty51, hσ, hcp, hcp1, hcp2, hi]
    simp [vlin, h1]
  | true =>
    rw [h1] at hi
    have h1' := inR_iff.1 h1
    obtain ⟨k, rfl⟩ : ∃ k : Nat, w = k := ⟨w.toNat, by omega⟩
    have hk : k ≤ 16 := by omega
    have e2 := sh_1 (b := k) (by omega)
    have e3 := pw_dec hk
    by_cases h2 : R.length = k
    · have ha : callI TT 94 [.lst R.length (ints R), .int .i64 0, .int .i64 (((pw k : Nat) : Int) - 1)] σ = some (.bool (allR R 0 (((pw k : Nat) : Int) - 1)), σ) := v94 R R.length rfl hs 0 _ σ _ rfl
      rw [h2] at ha hl hcp1
      have hi2 := c69 o 0 (((pw k : Nat) : Int) - 1) σ
      simp only [lin, h2] at hσ ⊢
      cases h4 : allR R 0 (((pw k : Nat) : Int) - 1) with
      | false =>
        rw [h4] at ha
        simp [xI_seq, xI_region, xI_ret, regA, regOps, runOps, opStep, wantedA, opA, evo, evos, calleeA, lk, nif_eq, putE, paramsE, valS, val2, keepE, restrict, finA, resA, binA, binInt, ofConst, ofConst1, loadA, TK.isAgg, asVar, unA, builtinA, lenOpA, lenA, ileb_cast, ileb_eq, ieqb_dec, indexAddrA, inB_dec, evPairs, storeA, AV.cellsOf, pairsOf, xI_nil, binBool, gcE, evOpt, tagZ, xI_block, xI_loopH, xI_condM, xI_exitM, xI_skip, xI_blk, exitA, ty2, ty24, ty51, runTr, pairsOk, pairOk, lstAt, lastOf, sameVal, AV.eqv, eqvs, eqvs_ints, regOps, blt_dec, cond_true, cond_false, fieldAddrA, allOne, AV.one, n_push, ty2, ty24, ty48, ty51, hσ, hcp, hcp1, hcp2, hi, hl, ha, e2, e3]
        simp [vlin, h1, h2, h4]
      | true =>
        rw [h4] at ha
        simp [xI_seq, xI_region, xI_ret, regA, regOps, runOps, opStep, wantedA, opA, evo, evos, calleeA, lk, nif_eq, putE, paramsE, valS, val2, keepE, restrict, finA, resA, binA, binInt, ofConst, ofConst1, loadA, TK.isAgg, asVar, unA, builtinA, lenOpA, lenA, ileb_cast, ileb_eq, ieqb_dec, indexAddrA, inB_dec, evPairs, storeA, AV.cellsOf, pairsOf, xI_nil, binBool, gcE, evOpt, tagZ, xI_block, xI_loopH, xI_condM, xI_exitM, xI_skip, xI_blk, exitA, ty2, ty24, ty51, runTr, pairsOk, pairOk, lstAt, lastOf, sameVal, AV.eqv, eqvs, eqvs_ints, regOps, blt_dec, cond_true, cond_false, fieldAddrA, allOne, AV.one, n_push, ty2, ty24, ty48, ty51, hσ, hcp, hcp1, hcp2, hi, hl, ha, e2, e3, hi2]
        simp [vlin, h1, h2, h4]
    · have h2' : ¬ (R.length : Int) = k := by omega
      simp only [lin] at hσ ⊢
      simp [xI_seq, xI_region, xI_ret, regA, regOps, runOps, opStep, wantedA, opA, evo, evos, calleeA, lk, nif_eq, putE, paramsE, valS, val2, keepE, restrict, finA, resA, binA, binInt, ofConst, ofConst1, loadA, TK.isAgg, asVar, unA, builtinA, lenOpA, lenA, ileb_cast, ileb_eq, ieqb_dec, indexAddrA, inB_dec, evPairs, storeA, AV.cellsOf, pairsOf, xI_nil, binBool, gcE, evOpt, tagZ, xI_block, xI_loopH, xI_condM, xI_exitM, xI_skip, xI_blk, exitA, ty2, ty24, ty51, runTr, pairsOk, pairOk, lstAt, lastOf, sameVal, AV.eqv, eqvs, eqvs_ints, regOps, blt_dec, cond_true, cond_false, fieldAddrA, allOne, AV.one, n_push, ty2, ty24, ty48, ty51, hσ, hcp, hcp1, hcp2, hi, hl, h2, h2']
      simp [vlin, h1, h2, h2']

theorem v78 (w : Int) (R : List Int) (o s : Int) (hs : R.length < 3000000) : FnV TT 78 [.agg (lin w R o), .int .i64 s] (.bool (vst w R o s)) := by
  refine FnV.mk fn78 rfl md78 ⟨(⟨[], 0⟩ : St).push ⟨lin w R o, 3, false⟩, ?_⟩ (fun _ => rfl) rfl
  generalize hσ : (⟨[], 0⟩ : St).push ⟨lin w R o, 3, false⟩ = σ
  have hcp : cellsAt σ (.ptr 0 0) 1 = some [.int .i64 w] := by subst hσ; rfl
  have hcp3 : cellsAt σ (.ptr 0 0) 3 = some [.int .i64 w, .lst R.length (ints R), .int .i64 o] := by subst hσ; rfl
  have h : callI TT 125 [.agg [.int .i64 w, .lst R.length (ints R), .int .i64 o]] σ = some (.bool (vlin w R o), σ) := v125 w R o hs σ _ rfl
  rw [fi78]
  simp only [lin] at hσ ⊢
  cases h1 : vlin w R o with
  | false =>
    rw [h1] at h
    simp [xI_seq, xI_region, xI_ret, regA, regOps, runOps, opStep, wantedA, opA, evo, evos, calleeA, lk, nif_eq, putE, paramsE, valS, val2, keepE, restrict, finA, resA, binA, binInt, ofConst, ofConst1, loadA, TK.isAgg, asVar, unA, builtinA, lenOpA, lenA, ileb_cast, ileb_eq, ieqb_dec, indexAddrA, inB_dec, evPairs, storeA, AV.cellsOf, pairsOf, xI_nil, binBool, gcE, evOpt, tagZ, xI_block, xI_loopH, xI_condM, xI_exitM, xI_skip, xI_blk, exitA, ty2, ty51, runTr, pairsOk, pairOk, lstAt, lastOf, sameVal, AV.eqv, eqvs, eqvs_ints, regOps, blt_dec, cond_true, cond_false, fieldAddrA, allOne, AV.one, n_push, ty2, ty24, ty48, ty51, hσ, hcp, hcp3, h]
    simp [vst, h1]
  | true =>
    rw [h1] at h
    obtain ⟨A, k, rfl, rfl, rfl, h2, h3, _⟩ := vlin_nat h1
    have e2 := sh_1 (b := A.length) (by omega)
    have e3 := pw_dec h3
    have hi2 := c69 s 0 (((pw A.length : Nat) : Int) - 1) σ
    simp only [nints_length] at *
    simp [xI_seq, xI_region, xI_ret, regA, regOps, runOps, opStep, wantedA, opA, evo, evos, calleeA, lk, nif_eq, putE, paramsE, valS, val2, keepE, restrict, finA, resA, binA, binInt, ofConst, ofConst1, loadA, TK.isAgg, asVar, unA, builtinA, lenOpA, lenA, ileb_cast, ileb_eq, ieqb_dec, indexAddrA, inB_dec, evPairs, storeA, AV.cellsOf, pairsOf, xI_nil, binBool, gcE, evOpt, tagZ, xI_block, xI_loopH, xI_condM, xI_exitM, xI_skip, xI_blk, exitA, ty2, ty51, runTr, pairsOk, pairOk, lstAt, lastOf, sameVal, AV.eqv, eqvs, eqvs_ints, regOps, blt_dec, cond_true, cond_false, fieldAddrA, allOne, AV.one, n_push, ty2, ty24, ty48, ty51, hσ, hcp, hcp3, h, e2, e3, hi2]
    simp [vst, h1]

open Go.Wd
theorem lin_eq (w : Int) (R : List Int) (o : Int) : lin w R o = [.int .i64 w, .lst R.length (ints R), .int .i64 o] := rfl
def nats (R : List Int) : List Nat := R.map Int.toNat
theorem nats_nints (A : List Nat) : nats (nints A) = A := by
  induction A with
  | nil => rfl
  | cons x r ih => simp only [nats, nints, List.map_cons] at ih ⊢; rw [ih]; simp
theorem lt_16 {A : List Nat} {r : Nat} (h : A.length ≤ 16) (hr : r < pw A.length) : r < 65536 := Nat.lt_of_lt_of_le hr (pw_16 h)
theorem vst_nat' {w : Int} {R : List Int} {o s : Int} (h : vst w R o s = true) : ∃ (A : List Nat) (k t : Nat), w = (A.length : Int) ∧ R = nints A ∧ o = (k : Int) ∧ s = (t : Int) ∧ 1 ≤ A.length ∧ A.length ≤ 16 ∧ (∀ r ∈ A, r < 65536) ∧ k < 65536 ∧ t < 65536 ∧ t < pw A.length := by
  obtain ⟨A, k, t, h1, h2, h3, h4, h5, h6, h7, h8, h9⟩ := vst_nat h
  exact ⟨A, k, t, h1, h2, h3, h4, h5, h6, fun r hr => lt_16 h6 (h7 r hr), lt_16 h6 h8, lt_16 h6 h9, h9⟩

theorem c124 (A : List Nat) (k t : Nat) (h16 : A.length ≤ 16) (hA : ∀ r ∈ A, r < 65536) (hk : k < 65536) (ht : t < 65536) (σ : St) (b : Nat) (x : Blk) (hb : σ.get b = some x) (hx : x.cells = lin A.length (nints A) k) :
    callI TT 124 [.ptr b 0, .int .i64 t] σ = some (.tup [.int .i64 (app A t : Nat), .int .i64 (par (andN k t) : Nat)], σ) := by
  rw [lin_eq] at hx
  have hcp1 : cellsAt σ (.ptr b 1) 1 = some [.lst A.length (ints (nints A))] := by simp [cellsAt, hb, hx, getCells, takeN, dropN, nints_length]
  have hcp2 : cellsAt σ (.ptr b 2) 1 = some [.int .i64 k] := by simp [cellsAt, hb, hx, getCells, takeN, dropN]
  have h1 : callI TT 160 [.lst A.length (ints (nints A)), .int .i64 t] σ = some (.int .i64 (app A t : Nat), σ) := v160 A hA h16 t (pow_62 ht) σ _ rfl
  have h2 := n_and (a := k) (b := t) (by omega) (by omega)
  have hle : andN k t ≤ k := Nat.and_le_left
  have h3 : callI TT 112 [.int .i64 (andN k t : Nat)] σ = some (.int .i64 (par (andN k t) : Nat), σ) := v112 (andN k t) (by omega) σ _ rfl
  rw [cI_0 fn124 rfl md124, fi124]
  simp [xI_seq, xI_region, xI_ret, regA, regOps, runOps, opStep, wantedA, opA, evo, evos, calleeA, lk, nif_eq, putE, paramsE, valS, val2, keepE, restrict, finA, resA, binA, binInt, ofConst, ofConst1, loadA, TK.isAgg, asVar, unA, builtinA, lenOpA, lenA, ileb_cast, ileb_eq, ieqb_dec, indexAddrA, inB_dec, evPairs, storeA, AV.cellsOf, pairsOf, xI_nil, binBool, gcE, evOpt, tagZ, xI_block, xI_loopH, xI_condM, xI_exitM, xI_skip, xI_blk, exitA, ty2, ty24, ty51, fieldAddrA, allOne, AV.one, n_push, ty2, ty24, ty48, ty51, runTr, pairsOk, pairOk, lstAt, lastOf, sameVal, AV.eqv, eqvs, eqvs_ints, regOps, blt_dec, cond_true, cond_false, hcp1, hcp2, h1, h2, h3]

open Go.Wd
theorem app_16 {A : List Nat} (h : A.length ≤ 16) (s : Nat) : app A s < 65536 := Nat.lt_of_lt_of_le (app_lt A s) (Nat.pow_le_pow_right (by decide) h)
/-- The first outputs. -/
def outB (A : List Nat) (k : Nat) : Nat → Nat → List UInt8
  | 0, _ => []
  | m + 1, t => bb (par (andN k t)) :: outB A k m (app A t)
theorem outB_length (A : List Nat) (k : Nat) : ∀ m t, (outB A k m t).length = m
  | 0, _ => rfl
  | m + 1, t => by simp [outB, outB_length A k m]
noncomputable def b76 : Code := Tryd.f76.body.getD .skip
noncomputable def B76_0 : Code := (bodyC (bodyC (sndC (fstC (sndC (sndC b76))))))
noncomputable def K76_0 : List It := .lp B76_0 :: .blk 0 :: .code (sndC (sndC (sndC b76))) :: []
theorem xl76_0 {fi : FI} {env : Env} {σ : St} : exI TT fi K76_0 env σ = exI TT fi (.code B76_0 :: K76_0) env σ := by unfold K76_0; exact xI_lp
noncomputable def R76_0_0 : List It := .code (sndC (sndC (sndC b76))) :: []
theorem eK76_0_0 : exitA 0 K76_0 = some R76_0_0 := rfl
theorem l76 (A : List Nat) (k c : Nat) (h16 : A.length ≤ 16) (hA : ∀ r ∈ A, r < 65536) (hk : k < 65536) (hc : c ≤ 400) (p : Nat) (x : Blk) (hx : x.cells = lin A.length (nints A) k) : ∀ (m t : Nat) (l : List UInt8) (σ : St) (b : Nat), l.length + m = c → t < 65536 → σ.get p = some x → p < b → BRow σ b l →
    ∃ σ', exI TT (FI.of Tryd.f76 (TT.an 76)) K76_0 [(0, .ptr p 0), (1, .int .i64 t), (2, .int .i64 c), (7, .sl b 0 l.length l.length), (8, .int .i64 l.length)] σ = some (.str (l ++ outB A k m t), σ') ∧ σ.n ≤ σ'.n ∧ ∀ c, c < b → σ'.get c = σ.get c := by
  intro m
  induction m with
  | zero =>
    intro t l σ b hl ht hp hpb hr
    obtain rfl : c = l.length := by omega
    have hs := toStr hr rfl
    refine ⟨σ, ?_, Nat.le_refl _, fun _ _ => rfl⟩
    rw [fi76]
    rw [xl76_0]
    simp only [B76_0, b76, Tryd.f76, Option.getD, fstC, sndC, bodyC, thnC, elsC]
    simp [xI_seq, xI_region, xI_ret, regA, regOps, runOps, opStep, wantedA, opA, evo, evos, calleeA, lk, nif_eq, putE, paramsE, valS, val2, keepE, restrict, finA, resA, binA, binInt, ofConst, ofConst1, loadA, TK.isAgg, asVar, unA, builtinA, lenOpA, lenA, ileb_cast, ileb_eq, ieqb_dec, indexAddrA, inB_dec, evPairs, storeA, AV.cellsOf, pairsOf, xI_nil, binBool, gcE, evOpt, tagZ, xI_block, xI_loopH, xI_condM, xI_exitM, xI_skip, xI_blk, exitA, ty2, ty5, ty9, ty32, eK76_0_0]
    simp only [R76_0_0, b76, Tryd.f76, Option.getD, fstC, sndC, bodyC, thnC, elsC]
    simp [xI_seq, xI_region, xI_ret, regA, regOps, runOps, opStep, wantedA, opA, evo, evos, calleeA, lk, nif_eq, putE, paramsE, valS, val2, keepE, restrict, finA, resA, binA, binInt, ofConst, ofConst1, loadA, TK.isAgg, asVar, unA, builtinA, lenOpA, lenA, ileb_cast, ileb_eq, ieqb_dec, indexAddrA, inB_dec, evPairs, storeA, AV.cellsOf, pairsOf, xI_nil, binBool, gcE, evOpt, tagZ, xI_block, xI_loopH, xI_condM, xI_exitM, xI_skip, xI_blk, exitA, ty2, ty5, ty9, ty32, eK76_0_0, hs, outB]
  | succ m ih =>
    intro t l σ b hl ht hp hpb hr
    have hpl := par_lt (andN k t)
    have hx2 := hx
    rw [lin_eq] at hx2
    obtain ⟨σ1, ha, hr1, hn1, _, ho1⟩ := bappend (x := bb (par (andN k t))) ty32 ty5 hr rfl (by omega)
    have hbn : b < σ.n := hr.lt
    have hp1 : σ1.get p = some x := (ho1 p (by omega) (by omega)).trans hp
    have hc1 := c124 A k t h16 hA hk ht σ p x hp hx
    have hc2 := bb_wrap hpl
    have hc3 : ∀ σ, convA TT σ 2 5 (.int .i64 (48 + ((par (andN k t) : Nat) : Int))) = some (.int .u8 ((bb (par (andN k t))).toNat : Nat), σ) := bb_conv hpl
    obtain ⟨σ', h1, h2, h3⟩ := ih (app A t) (l ++ [bb (par (andN k t))]) σ1 (σ.n + 1) (by simp; omega) (app_16 h16 t) hp1 (by omega) hr1
    refine ⟨σ', ?_, by omega, fun c hc => (h3 c (by omega)).trans (ho1 c (by omega) (by omega))⟩
    rw [show l ++ outB A k (m + 1) t = l ++ [bb (par (andN k t))] ++ outB A k m (app A t) by simp [outB]]
    simp only [List.length_append, List.length_singleton] at h1
    have hlt : ¬ c ≤ l.length := by omega
    have hlt2 : l.length < c := by omega
    have hw := wrapS (n := l.length) (by omega)
    rw [fi76] at h1 ⊢
    rw [xl76_0]
    simp only [B76_0, b76, Tryd.f76, Option.getD, fstC, sndC, bodyC, thnC, elsC]
    simp [xI_seq, xI_region, xI_ret, regA, regOps, runOps, opStep, wantedA, opA, evo, evos, calleeA, lk, nif_eq, putE, paramsE, valS, val2, keepE, restrict, finA, resA, binA, binInt, ofConst, ofConst1, loadA, TK.isAgg, asVar, unA, builtinA, lenOpA, lenA, ileb_cast, ileb_eq, ieqb_dec, indexAddrA, inB_dec, evPairs, storeA, AV.cellsOf, pairsOf, xI_nil, binBool, gcE, evOpt, tagZ, xI_block, xI_loopH, xI_condM, xI_exitM, xI_skip, xI_blk, exitA, ty2, ty5, ty9, ty32, eK76_0_0, hlt, hlt2, hw, ha, bb1, hc1, hc2, hc3]
    simpa using h1

noncomputable def b79 : Code := Tryd.f79.body.getD .skip
noncomputable def B79_0 : Code := (bodyC (bodyC (sndC (fstC (sndC (sndC b79))))))
noncomputable def K79_0 : List It := .lp B79_0 :: .blk 0 :: .code (sndC (sndC (sndC b79))) :: []
theorem xl79_0 {fi : FI} {env : Env} {σ : St} : exI TT fi K79_0 env σ = exI TT fi (.code B79_0 :: K79_0) env σ := by unfold K79_0; exact xI_lp
noncomputable def R79_0_0 : List It := .code (sndC (sndC (sndC b79))) :: []
theorem eK79_0_0 : exitA 0 K79_0 = some R79_0_0 := rfl
theorem l79 (A : List Nat) (k c : Nat) (h16 : A.length ≤ 16) (hA : ∀ r ∈ A, r < 65536) (hk : k < 65536) (hc : c ≤ 400) (p : Nat) (x : Blk) (hx : x.cells = lin A.length (nints A) k) : ∀ (m t : Nat) (l : List UInt8) (σ : St) (b : Nat), l.length + m = c → t < 65536 → σ.get p = some x → p < b → BRow σ b l →
    ∃ σ', exI TT (FI.of Tryd.f79 (TT.an 79)) K79_0 [(1, .int .i64 t), (3, .ptr p 0), (7, .sl b 0 l.length l.length), (9, .int .i64 c), (10, .int .i64 l.length)] σ = some (.str (l ++ outB A k m t), σ') ∧ σ.n ≤ σ'.n ∧ ∀ c, c < b → σ'.get c = σ.get c := by
  intro m
  induction m with
  | zero =>
    intro t l σ b hl ht hp hpb hr
    obtain rfl : c = l.length := by omega
    have hs := toStr hr rfl
    refine ⟨σ, ?_, Nat.le_refl _, fun _ _ => rfl⟩
    rw [fi79]
    rw [xl79_0]
    simp only [B79_0, b79, Tryd.f79, Option.getD, fstC, sndC, bodyC, thnC, elsC]
    simp [xI_seq, xI_region, xI_ret, regA, regOps, runOps, opStep, wantedA, opA, evo, evos, calleeA, lk, nif_eq, putE, paramsE, valS, val2, keepE, restrict, finA, resA, binA, binInt, ofConst, ofConst1, loadA, TK.isAgg, asVar, unA, builtinA, lenOpA, lenA, ileb_cast, ileb_eq, ieqb_dec, indexAddrA, inB_dec, evPairs, storeA, AV.cellsOf, pairsOf, xI_nil, binBool, gcE, evOpt, tagZ, xI_block, xI_loopH, xI_condM, xI_exitM, xI_skip, xI_blk, exitA, ty2, ty5, ty9, ty24, ty32, ty51, eK79_0_0]
    simp only [R79_0_0, b79, Tryd.f79, Option.getD, fstC, sndC, bodyC, thnC, elsC]
    simp [xI_seq, xI_region, xI_ret, regA, regOps, runOps, opStep, wantedA, opA, evo, evos, calleeA, lk, nif_eq, putE, paramsE, valS, val2, keepE, restrict, finA, resA, binA, binInt, ofConst, ofConst1, loadA, TK.isAgg, asVar, unA, builtinA, lenOpA, lenA, ileb_cast, ileb_eq, ieqb_dec, indexAddrA, inB_dec, evPairs, storeA, AV.cellsOf, pairsOf, xI_nil, binBool, gcE, evOpt, tagZ, xI_block, xI_loopH, xI_condM, xI_exitM, xI_skip, xI_blk, exitA, ty2, ty5, ty9, ty24, ty32, ty51, eK79_0_0, hs, outB]
  | succ m ih =>
    intro t l σ b hl ht hp hpb hr
    have hpl := par_lt (andN k t)
    have hx2 := hx
    rw [lin_eq] at hx2
    obtain ⟨σ1, ha, hr1, hn1, _, ho1⟩ := bappend (x := bb (par (andN k t))) ty32 ty5 hr rfl (by omega)
    have hbn : b < σ.n := hr.lt
    have hp1 : σ1.get p = some x := (ho1 p (by omega) (by omega)).trans hp
    have hcp1 : ∀ σ', σ'.get p = some x → cellsAt σ' (.ptr p 1) 1 = some [.lst A.length (ints (nints A))] := fun σ' hp => by simp [cellsAt, hp, hx2, getCells, takeN, dropN, nints_length]
    have hcp2 : cellsAt σ (.ptr p 2) 1 = some [.int .i64 k] := by simp [cellsAt, hp, hx2, getCells, takeN, dropN]
    have hcp1' := hcp1 σ1 hp1
    have hc1 := n_and (a := k) (b := t) (by omega) (by omega)
    have hle : andN k t ≤ k := Nat.and_le_left
    have hc2 := c126 (andN k t) (by omega) σ
    have hc3 := c115 (par (andN k t)) hpl σ
    have hc4 : callI TT 127 [.lst A.length (ints (nints A)), .int .i64 t] σ1 = some (.int .i64 (app A t : Nat), σ1) := v127 A hA h16 t (pow_62 ht) σ1 _ rfl
    obtain ⟨σ', h1, h2, h3⟩ := ih (app A t) (l ++ [bb (par (andN k t))]) σ1 (σ.n + 1) (by simp; omega) (app_16 h16 t) hp1 (by omega) hr1
    refine ⟨σ', ?_, by omega, fun c hc => (h3 c (by omega)).trans (ho1 c (by omega) (by omega))⟩
    rw [show l ++ outB A k (m + 1) t = l ++ [bb (par (andN k t))] ++ outB A k m (app A t) by simp [outB]]
    simp only [List.length_append, List.length_singleton] at h1
    have hlt : ¬ c ≤ l.length := by omega
    have hlt2 : l.length < c := by omega
    have hw := wrapS (n := l.length) (by omega)
    rw [fi79] at h1 ⊢
    rw [xl79_0]
    simp only [B79_0, b79, Tryd.f79, Option.getD, fstC, sndC, bodyC, thnC, elsC]
    simp [xI_seq, xI_region, xI_ret, regA, regOps, runOps, opStep, wantedA, opA, evo, evos, calleeA, lk, nif_eq, putE, paramsE, valS, val2, keepE, restrict, finA, resA, binA, binInt, ofConst, ofConst1, loadA, TK.isAgg, asVar, unA, builtinA, lenOpA, lenA, ileb_cast, ileb_eq, ieqb_dec, indexAddrA, inB_dec, evPairs, storeA, AV.cellsOf, pairsOf, xI_nil, binBool, gcE, evOpt, tagZ, xI_block, xI_loopH, xI_condM, xI_exitM, xI_skip, xI_blk, exitA, ty2, ty5, ty9, ty24, ty32, ty51, eK79_0_0, hlt, hlt2, hw, ha, bb1, hcp1', hcp2, hc1, hc2, hc3, hc4, fieldAddrA, allOne, AV.one, n_push, ty2, ty24, ty48, ty51]
    simpa using h1

theorem r76 (A : List Nat) (k c t : Nat) (h16 : A.length ≤ 16) (hA : ∀ r ∈ A, r < 65536) (hk : k < 65536) (hc : c ≤ 400) (ht : t < 65536) (p : Nat) (x : Blk) (hx : x.cells = lin A.length (nints A) k) (σ : St) (hp : σ.get p = some x) (hpn : p < σ.n) :
    ∃ σ', callI TT 76 [.ptr p 0, .int .i64 t, .int .i64 c] σ = some (.str (outB A k c t), σ') ∧ Old σ σ' := by
  obtain ⟨σ', h, h2, h3⟩ := l76 A k c h16 hA hk hc p x hx c t [] (σ.push ⟨intsOf [], 1, false⟩) σ.n (by simp) ht ((get_push_lt hpn).trans hp) hpn (BRow.push σ [])
  refine ⟨σ', ?_, ⟨by simp only [n_push] at h2; omega, fun c hc => (h3 c hc).trans (get_push_lt hc)⟩⟩
  rw [cI_0 fn76 rfl md76, fi76]
  rw [fi76] at h
  simp only [List.nil_append, List.length_nil, Int.natCast_zero, show ((0 : Nat) : Int) = 0 from rfl] at h
  simp [xI_seq, xI_region, xI_ret, regA, regOps, runOps, opStep, wantedA, opA, evo, evos, calleeA, lk, nif_eq, putE, paramsE, valS, val2, keepE, restrict, finA, resA, binA, binInt, ofConst, ofConst1, loadA, TK.isAgg, asVar, unA, builtinA, lenOpA, lenA, ileb_cast, ileb_eq, ieqb_dec, indexAddrA, inB_dec, evPairs, storeA, AV.cellsOf, pairsOf, xI_nil, binBool, gcE, evOpt, tagZ, xI_block, xI_loopH, xI_condM, xI_exitM, xI_skip, xI_blk, exitA, ty2, ty5, ty9, ty32, eK76_0_0, bb0]
  exact h
theorem v79 (A : List Nat) (k c t : Nat) (h16 : A.length ≤ 16) (hA : ∀ r ∈ A, r < 65536) (hk : k < 65536) (hc : c ≤ 400) (ht : t < 65536) : FnV TT 79 [.agg (lin A.length (nints A) k), .int .i64 t, .int .i64 c] (.str (outB A k c t)) := by
  obtain ⟨σ', h, _⟩ := l79 A k c h16 hA hk hc 0 _ rfl c t [] (((⟨[], 0⟩ : St).push ⟨lin A.length (nints A) k, 3, false⟩).push ⟨intsOf [], 1, false⟩) 1 (by simp) ht rfl (by decide) (BRow.push ((⟨[], 0⟩ : St).push ⟨lin A.length (nints A) k, 3, false⟩) [])
  refine FnV.mk fn79 rfl md79 ⟨σ', ?_⟩ (fun _ => rfl) rfl
  rw [fi79]
  rw [fi79] at h
  simp only [List.nil_append, List.length_nil, Int.natCast_zero, show ((0 : Nat) : Int) = 0 from rfl] at h
  simp only [lin] at h ⊢
  simp [xI_seq, xI_region, xI_ret, regA, regOps, runOps, opStep, wantedA, opA, evo, evos, calleeA, lk, nif_eq, putE, paramsE, valS, val2, keepE, restrict, finA, resA, binA, binInt, ofConst, ofConst1, loadA, TK.isAgg, asVar, unA, builtinA, lenOpA, lenA, ileb_cast, ileb_eq, ieqb_dec, indexAddrA, inB_dec, evPairs, storeA, AV.cellsOf, pairsOf, xI_nil, binBool, gcE, evOpt, tagZ, xI_block, xI_loopH, xI_condM, xI_exitM, xI_skip, xI_blk, exitA, ty2, ty5, ty9, ty24, ty32, ty51, eK79_0_0, fieldAddrA, allOne, AV.one, n_push, ty2, ty24, ty48, ty51, bb0]
  exact h
open Go.Wd
theorem fits_lin {xs : List AV} (h : Fits [.int .i64, .sl [.int .i64], .int .i64] xs) : ∃ (w : Int) (l : List Int) (o : Int), xs = lin w l o ∧ l.length ≤ maxLen ∧ (-9223372036854775808 ≤ w ∧ w ≤ 9223372036854775807) ∧ (-9223372036854775808 ≤ o ∧ o ≤ 9223372036854775807) := by
  simp only [Fits] at h
  obtain ⟨_, _, rfl, h1, _, _, rfl, h2, _, _, rfl, h3, rfl⟩ := h
  obtain ⟨l, rfl, hl, _⟩ := fit_ints h2
  simp only [Fit] at h1 h3
  obtain ⟨w, rfl, hw⟩ := h1
  obtain ⟨o, rfl, ho⟩ := h3
  refine ⟨w, l, o, rfl, hl, ?_, ?_⟩
  · simp [Lit.wf, IntKind.min, IntKind.max, IntKind.signed, IntKind.bits] at hw
    omega
  · simp [Lit.wf, IntKind.min, IntKind.max, IntKind.signed, IntKind.bits] at ho
    omega
/-- What is told of a machine and a state. -/
noncomputable def roV (w : Int) (R : List Int) (o s : Int) : AV :=
  if vst w R o s = true then srV (outB (nats R) o.toNat (2 * w.toNat) s.toNat) else .tup [.agg [.int .i64 0, .int .i64 0], .int .i64 0, .bool false]
theorem roV_frz (w : Int) (R : List Int) (o s : Int) (σ : St) : frzV σ frzDepth (roV w R o s) = some (roV w R o s) := by
  unfold roV; split
  · exact srV_frz _ σ
  · rfl
theorem roV_scal (w : Int) (R : List Int) (o s : Int) : (roV w R o s).scal = true := by
  unfold roV; split
  · exact srV_scal _
  · rfl
theorem roV_no {w : Int} {R : List Int} {o s : Int} (h : vst w R o s = false) : roV w R o s = .tup [.agg [.int .i64 0, .int .i64 0], .int .i64 0, .bool false] := by simp [roV, h]
theorem roV_yes {A : List Nat} {k t : Nat} (h : vst (A.length : Int) (nints A) k t = true) : roV (A.length : Int) (nints A) k t = srV (outB A k (2 * A.length) t) := by simp [roV, h, nats_nints]
theorem srV_form (l : List UInt8) : ∃ a b c : Int, ∃ d : Bool, srV l = .tup [.agg [.int .i64 a, .int .i64 b], .int .i64 c, .bool d] := by
  unfold srV; split
  · exact ⟨_, _, _, _, rfl⟩
  · exact ⟨_, _, _, _, rfl⟩
theorem roV_form (w : Int) (R : List Int) (o s : Int) : ∃ a b c : Int, ∃ d : Bool, roV w R o s = .tup [.agg [.int .i64 a, .int .i64 b], .int .i64 c, .bool d] := by
  unfold roV; split
  · exact srV_form _
  · exact ⟨_, _, _, _, rfl⟩

theorem v29 (w : Int) (R : List Int) (o s : Int) (hs : R.length < 1000000000000) : FnV TT 29 [.agg (lin w R o), .int .i64 s] (roV w R o s) := by
  refine FnV.mk fn29 rfl md29 ?_ (roV_frz w R o s) (roV_scal w R o s)
  obtain ⟨σ, hσ⟩ : ∃ σ, (⟨[], 0⟩ : St).push ⟨lin w R o, 3, false⟩ = σ := ⟨_, rfl⟩
  have hg : σ.get 0 = some ⟨lin w R o, 3, false⟩ := by subst hσ; rfl
  have hn : σ.n = 1 := by subst hσ; rfl
  obtain ⟨τ, hτ⟩ : ∃ τ, σ.push ⟨[.int .i64 0, .int .i64 0], 2, false⟩ = τ := ⟨_, rfl⟩
  have hgt : τ.get 0 = some ⟨lin w R o, 3, false⟩ := by subst hτ; exact (get_push_lt (by omega)).trans hg
  have hnt : 0 < τ.n := by subst hτ; exact Nat.succ_pos _
  have g0 : RGB τ 1 0 0 := by
    have h := get_push_same (σ := σ) (x := ⟨[.int .i64 0, .int .i64 0], 2, false⟩)
    rw [hn] at h; subst hτ; exact h
  have h := c74 w R o s hs τ 0 _ hgt rfl
  have hcp : cellsAt τ (.ptr 0 0) 1 = some [.int .i64 w] := by simp [cellsAt, hgt, lin_eq, getCells, takeN, dropN]
  rw [fi29]
  cases h1 : vst w R o s with
  | false =>
    rw [h1] at h
    rw [roV_no h1]
    obtain ⟨σ1, s1, g1, _, _⟩ := g0.s2 0 0
    have p1 := g1.cc
    refine ⟨σ1, ?_⟩
    simp only [lin] at hσ ⊢
    simp [xI_seq, xI_region, xI_ret, regA, regOps, runOps, opStep, wantedA, opA, evo, evos, calleeA, lk, nif_eq, putE, paramsE, valS, val2, keepE, restrict, finA, resA, binA, binInt, ofConst, ofConst1, loadA, TK.isAgg, asVar, unA, builtinA, lenOpA, lenA, ileb_cast, ileb_eq, ieqb_dec, indexAddrA, inB_dec, evPairs, storeA, AV.cellsOf, pairsOf, xI_nil, binBool, gcE, evOpt, tagZ, xI_block, xI_loopH, xI_condM, xI_exitM, xI_skip, xI_blk, exitA, ty2, ty4, ty27, ty51, runTr, pairsOk, pairOk, lstAt, lastOf, sameVal, AV.eqv, eqvs, eqvs_ints, regOps, blt_dec, cond_true, cond_false, fieldAddrA, allOne, AV.one, buildA, sizesOf, fillA, putCells, n_push, indexA, ty2, ty27, ty9, ty5, ty36, ty24, ty51, hσ, hn, hτ, h, s1, p1]
  | true =>
    rw [h1] at h
    obtain ⟨A, k, t, rfl, rfl, rfl, rfl, h2, h3, h4, h5, h6, h7⟩ := vst_nat' h1
    rw [roV_yes h1]
    obtain ⟨W, hW⟩ : ∃ W, 2 * A.length = W := ⟨_, rfl⟩
    rw [hW]
    obtain ⟨σ2, e1, e1o⟩ := r76 A k W t h3 h4 h5 (by omega) h6 0 _ rfl τ hgt hnt
    have e2 := v75 (outB A k W t) (by rw [outB_length]; omega) σ2 [.str (outB A k W t)] rfl
    obtain ⟨a, b, c, d, e3⟩ := srV_form (outB A k W t)
    rw [e3] at e2 ⊢
    have hw2 : wrapA .i64 (2 * (A.length : Int)) = (W : Int) := by rw [wrapA_id (by omega) (by omega)]; omega
    have g2 := g0.keep (e1o.2 1 (by subst hτ; show 1 < σ.n + 1; omega))
    obtain ⟨σ1, s1, g1, _, _⟩ := g2.s2 a b
    have p1 := g1.cc
    refine ⟨σ1, ?_⟩
    simp only [lin, nints_length] at hσ ⊢
    generalize outB A k W t = z at *
    simp [xI_seq, xI_region, xI_ret, regA, regOps, runOps, opStep, wantedA, opA, evo, evos, calleeA, lk, nif_eq, putE, paramsE, valS, val2, keepE, restrict, finA, resA, binA, binInt, ofConst, ofConst1, loadA, TK.isAgg, asVar, unA, builtinA, lenOpA, lenA, ileb_cast, ileb_eq, ieqb_dec, indexAddrA, inB_dec, evPairs, storeA, AV.cellsOf, pairsOf, xI_nil, binBool, gcE, evOpt, tagZ, xI_block, xI_loopH, xI_condM, xI_exitM, xI_skip, xI_blk, exitA, ty2, ty4, ty27, ty51, runTr, pairsOk, pairOk, lstAt, lastOf, sameVal, AV.eqv, eqvs, eqvs_ints, regOps, blt_dec, cond_true, cond_false, fieldAddrA, allOne, AV.one, buildA, sizesOf, fillA, putCells, n_push, indexA, ty2, ty27, ty9, ty5, ty36, ty24, ty51, hσ, hn, hτ, h, hcp, hw2, e1, e2, s1, p1]

theorem v31 (w : Int) (R : List Int) (o s : Int) (hs : R.length < 3000000) : FnV TT 31 [.agg (lin w R o), .int .i64 s] (roV w R o s) := by
  refine FnV.mk fn31 rfl md31 ?_ (roV_frz w R o s) (roV_scal w R o s)
  obtain ⟨σ, hσ⟩ : ∃ σ, (⟨[], 0⟩ : St).push ⟨lin w R o, 3, false⟩ = σ := ⟨_, rfl⟩
  have hg : σ.get 0 = some ⟨lin w R o, 3, false⟩ := by subst hσ; rfl
  have hn : σ.n = 1 := by subst hσ; rfl
  obtain ⟨τ, hτ⟩ : ∃ τ, σ.push ⟨[.int .i64 0, .int .i64 0], 2, false⟩ = τ := ⟨_, rfl⟩
  have hgt : τ.get 0 = some ⟨lin w R o, 3, false⟩ := by subst hτ; exact (get_push_lt (by omega)).trans hg
  have g0 : RGB τ 1 0 0 := by
    have h := get_push_same (σ := σ) (x := ⟨[.int .i64 0, .int .i64 0], 2, false⟩)
    rw [hn] at h; subst hτ; exact h
  have h : callI TT 78 [.agg [.int .i64 w, .lst R.length (ints R), .int .i64 o], .int .i64 s] τ = some (.bool (vst w R o s), τ) := v78 w R o s hs τ _ rfl
  have hcp : cellsAt τ (.ptr 0 0) 1 = some [.int .i64 w] := by simp [cellsAt, hgt, lin_eq, getCells, takeN, dropN]
  have hcp3 : cellsAt τ (.ptr 0 0) 3 = some [.int .i64 w, .lst R.length (ints R), .int .i64 o] := by simp [cellsAt, hgt, lin_eq, getCells, takeN, dropN]
  rw [fi31]
  cases h1 : vst w R o s with
  | false =>
    rw [h1] at h
    rw [roV_no h1]
    obtain ⟨σ1, s1, g1, _, _⟩ := g0.s2 0 0
    have p1 := g1.cc
    refine ⟨σ1, ?_⟩
    simp only [lin] at hσ ⊢
    simp [xI_seq, xI_region, xI_ret, regA, regOps, runOps, opStep, wantedA, opA, evo, evos, calleeA, lk, nif_eq, putE, paramsE, valS, val2, keepE, restrict, finA, resA, binA, binInt, ofConst, ofConst1, loadA, TK.isAgg, asVar, unA, builtinA, lenOpA, lenA, ileb_cast, ileb_eq, ieqb_dec, indexAddrA, inB_dec, evPairs, storeA, AV.cellsOf, pairsOf, xI_nil, binBool, gcE, evOpt, tagZ, xI_block, xI_loopH, xI_condM, xI_exitM, xI_skip, xI_blk, exitA, ty2, ty4, ty27, ty51, runTr, pairsOk, pairOk, lstAt, lastOf, sameVal, AV.eqv, eqvs, eqvs_ints, regOps, blt_dec, cond_true, cond_false, fieldAddrA, allOne, AV.one, buildA, sizesOf, fillA, putCells, n_push, indexA, ty2, ty27, ty9, ty5, ty36, ty24, ty51, hσ, hn, hτ, h, hcp3, s1, p1]
  | true =>
    rw [h1] at h
    obtain ⟨A, k, t, rfl, rfl, rfl, rfl, h2, h3, h4, h5, h6, h7⟩ := vst_nat' h1
    rw [roV_yes h1]
    obtain ⟨W, hW⟩ : ∃ W, 2 * A.length = W := ⟨_, rfl⟩
    rw [hW]
    have e1 : callI TT 79 [.agg [.int .i64 A.length, .lst A.length (ints (nints A)), .int .i64 k], .int .i64 t, .int .i64 W] τ = some (.str (outB A k W t), τ) := v79 A k W t h3 h4 h5 (by omega) h6 τ _ (by rw [lin_eq, nints_length]; rfl)
    have e2 := v26 (outB A k W t) (by rw [outB_length]; omega) τ [.str (outB A k W t)] rfl
    obtain ⟨a, b, c, d, e3⟩ := srV_form (outB A k W t)
    rw [e3] at e2 ⊢
    have hw2 : wrapA .i64 (2 * (A.length : Int)) = (W : Int) := by rw [wrapA_id (by omega) (by omega)]; omega
    obtain ⟨σ1, s1, g1, _, _⟩ := g0.s2 a b
    have p1 := g1.cc
    refine ⟨σ1, ?_⟩
    simp only [nints_length] at hcp3 h
    simp only [lin, nints_length] at hσ ⊢
    generalize outB A k W t = z at *
    simp [xI_seq, xI_region, xI_ret, regA, regOps, runOps, opStep, wantedA, opA, evo, evos, calleeA, lk, nif_eq, putE, paramsE, valS, val2, keepE, restrict, finA, resA, binA, binInt, ofConst, ofConst1, loadA, TK.isAgg, asVar, unA, builtinA, lenOpA, lenA, ileb_cast, ileb_eq, ieqb_dec, indexAddrA, inB_dec, evPairs, storeA, AV.cellsOf, pairsOf, xI_nil, binBool, gcE, evOpt, tagZ, xI_block, xI_loopH, xI_condM, xI_exitM, xI_skip, xI_blk, exitA, ty2, ty4, ty27, ty51, runTr, pairsOk, pairOk, lstAt, lastOf, sameVal, AV.eqv, eqvs, eqvs_ints, regOps, blt_dec, cond_true, cond_false, fieldAddrA, allOne, AV.one, buildA, sizesOf, fillA, putCells, n_push, indexA, ty2, ty27, ty9, ty5, ty36, ty24, ty51, hσ, hn, hτ, h, hcp, hcp3, hw2, e1, e2, s1, p1]

theorem v32 (a b : Int) : FnV TT 32 [.agg [.int .i64 a, .int .i64 b], .agg [.int .i64 a, .int .i64 b]] (.bool true) := by
  refine FnV.mk fn32 rfl md32 ?_ (fun _ => rfl) rfl
  rw [fi32]
  simp [xI_seq, xI_region, xI_ret, regA, regOps, runOps, opStep, wantedA, opA, evo, evos, calleeA, lk, nif_eq, putE, paramsE, valS, val2, keepE, restrict, finA, resA, binA, binInt, ofConst, ofConst1, loadA, TK.isAgg, asVar, unA, builtinA, lenOpA, lenA, ileb_cast, ileb_eq, ieqb_dec, indexAddrA, inB_dec, evPairs, storeA, AV.cellsOf, pairsOf, xI_nil, binBool, gcE, evOpt, tagZ, xI_block, xI_loopH, xI_condM, xI_exitM, xI_skip, xI_blk, exitA, ty2, ty27, cellsAt, getCells, takeN, dropN, fieldAddrA, allOne, AV.one, n_push, storeCellsA, putN, overN, ty2, ty27, St.push, St.get, St.set, hget, hset, runTr, pairsOk, pairOk, lstAt, lastOf, sameVal, AV.eqv, eqvs, eqvs_ints, regOps, blt_dec, cond_true, cond_false]
set_option maxHeartbeats 1000000 in
theorem w6 (w : Int) (l : List Int) (o : Int) (s : Int) (hn0 : l.length ≤ 9223372036854775807) : FnV TT 6 [.agg (lin w l o), .int .i64 s] (.bool true) := by
  refine FnV.mk fn6 rfl md6 ?_ (fun _ => rfl) rfl
  rw [fi6]
  have hsz : ∀ σ : St, callI TT 28 [.agg (lin w l o), .int .i64 1048576] σ = some (.int .i64 (if l.length ≤ 1048576 then (1048576 : Int) - l.length else -1), σ) := fun σ => v28 w l o 1048576 hn0 (by decide) σ _ rfl
  by_cases hbig : l.length ≤ 1048576
  · have hl : l.length < 3000000 := by omega
    have hn : l.length < 1000000000000 := by omega
    have hto : ∀ σ : St, callI TT 30 [.agg (lin w l o)] σ = some (.agg (lin w l o), σ) := fun σ => tol30 w l o hn σ _ rfl rfl
    have heq : ∀ σ : St, callI TT 33 [.agg (lin w l o), .agg (lin w l o)] σ = some (.bool true, σ) := fun σ => v33 w l o hn σ _ rfl
    have hS : ∀ σ : St, callI TT 29 [.agg (lin w l o), .int .i64 s] σ = some (roV w l o s, σ) := fun σ => v29 w l o s hn σ _ rfl
    have hI : ∀ σ : St, callI TT 31 [.agg (lin w l o), .int .i64 s] σ = some (roV w l o s, σ) := fun σ => v31 w l o s hl σ _ rfl
    obtain ⟨a, b, c, d, hV⟩ := roV_form w l o s
    rw [hV] at hS hI
    have her : ∀ σ : St, callI TT 32 [.agg [.int .i64 a, .int .i64 b], .agg [.int .i64 a, .int .i64 b]] σ = some (.bool true, σ) := fun σ => v32 a b σ _ rfl
    have h1 : ¬ ((1048576 : Int) - l.length < 0) := by omega
    have h2 : ¬ ((1048576 : Int) < l.length) := by omega
    simp only [if_pos hbig] at hsz
    simp only [lin] at hsz hto heq hS hI ⊢
    cases d <;> simp [xI_seq, xI_region, xI_ret, regA, regOps, runOps, opStep, wantedA, opA, evo, evos, calleeA, lk, nif_eq, putE, paramsE, valS, val2, keepE, restrict, finA, resA, binA, binInt, ofConst, ofConst1, loadA, TK.isAgg, asVar, unA, builtinA, lenOpA, lenA, ileb_cast, ileb_eq, ieqb_dec, indexAddrA, inB_dec, evPairs, storeA, AV.cellsOf, pairsOf, xI_nil, binBool, gcE, evOpt, tagZ, xI_block, xI_loopH, xI_condM, xI_exitM, xI_skip, xI_blk, exitA, ty2, ty3, ty4, ty27, ty48, ty51, cellsAt, getCells, takeN, dropN, fieldAddrA, allOne, AV.one, n_push, storeCellsA, putN, overN, ty2, ty27, St.push, St.get, St.set, hget, hset, runTr, pairsOk, pairOk, lstAt, lastOf, sameVal, AV.eqv, eqvs, eqvs_ints, regOps, blt_dec, cond_true, cond_false, ty51, ty48, ty4, ty3, hsz, hto, heq, hS, hI, her, h1, h2]
  · simp only [if_neg hbig] at hsz
    simp only [lin] at hsz ⊢
    simp [xI_seq, xI_region, xI_ret, regA, regOps, runOps, opStep, wantedA, opA, evo, evos, calleeA, lk, nif_eq, putE, paramsE, valS, val2, keepE, restrict, finA, resA, binA, binInt, ofConst, ofConst1, loadA, TK.isAgg, asVar, unA, builtinA, lenOpA, lenA, ileb_cast, ileb_eq, ieqb_dec, indexAddrA, inB_dec, evPairs, storeA, AV.cellsOf, pairsOf, xI_nil, binBool, gcE, evOpt, tagZ, xI_block, xI_loopH, xI_condM, xI_exitM, xI_skip, xI_blk, exitA, ty2, ty3, ty4, ty27, ty48, ty51, cellsAt, getCells, takeN, dropN, fieldAddrA, allOne, AV.one, n_push, storeCellsA, putN, overN, ty2, ty27, St.push, St.get, St.set, hget, hset, runTr, pairsOk, pairOk, lstAt, lastOf, sameVal, AV.eqv, eqvs, eqvs_ints, regOps, blt_dec, cond_true, cond_false, ty51, ty48, ty3, hsz]

end Go.Proofs.YthkdbkjkccogfaaDoor
