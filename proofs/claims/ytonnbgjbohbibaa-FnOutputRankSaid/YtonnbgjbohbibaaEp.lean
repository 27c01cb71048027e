/- Contracts: equations in echelon form. Nothing is claimed here; no condition. -/
import Derived.Test.YtonnbgjbohbibaaEj
import Derived.Test.YtonnbgjbohbibaaWx
namespace Go.Proofs.Ytonnbgjbohbibaa
open Go Go.Abs
set_option linter.unusedSimpArgs false
set_option linter.unusedVariables false
open Go.Wd
noncomputable def lenOk (x : Int) (y : Int) : Bool := match exec TT 200 (FI.of Try.f146 (TT.an 146)) [.code (Try.f146.body.getD .skip)] (paramsE 0 [.int .u64 x]) ⟨[], 0⟩ with
  | some (v, _) => v.eqv (.int .i64 y)
  | none => false
set_option maxRecDepth 100000 in
theorem len_tab : (lenOk 0 0 && ((List.range 17).all fun c => lenOk ((2 ^ c : Nat) : Int) ((c : Int) + 1))) = true := by kernel_rfl
theorem len_of {x y : Int} (h : lenOk x y = true) : FnV TT 146 [.int .u64 x] (.int .i64 y) := by
  refine FnV.mk fn146 (c := Try.f146.body.getD .skip) rfl md146 ?_ (fun _ => rfl) rfl
  unfold lenOk at h
  cases hx : exec TT 200 (FI.of Try.f146 (TT.an 146)) [.code (Try.f146.body.getD .skip)] (paramsE 0 [.int .u64 x]) ⟨[], 0⟩ with
  | none => rw [hx] at h; cases h
  | some r =>
    rw [hx] at h
    obtain ⟨v, σ1⟩ := r
    have := eqv_sound _ _ h
    exact ⟨σ1, by rw [exI_iff.2 ⟨200, hx⟩, this]⟩
theorem v146z : FnV TT 146 [.int .u64 0] (.int .i64 0) := by
  have h := len_tab
  rw [Bool.and_eq_true] at h
  exact len_of h.1
theorem v146 (c : Nat) (hc : c ≤ 16) : FnV TT 146 [.int .u64 (pw c : Nat)] (.int .i64 ((c : Int) + 1)) := by
  have h := len_tab
  rw [Bool.and_eq_true, List.all_eq_true] at h
  exact len_of (h.2 c (List.mem_range.2 (by omega)))
theorem v142z : FnV TT 142 [.int .i64 0] (.int .i64 (-1)) := by
  refine FnV.mk fn142 rfl md142 ⟨⟨[], 0⟩, ?_⟩ (fun _ => rfl) rfl
  have h : callI TT 146 [.int .u64 0] ⟨[], 0⟩ = some (.int .i64 0, ⟨[], 0⟩) := v146z _ _ rfl
  have h1 : wrapA .u64 (0 : Int) = 0 := by decide
  have h2 : wrapA .i64 (-1 : Int) = -1 := by decide
  rw [fi142]
  simp [xI_seq, xI_region, xI_ret, regA, regOps, runOps, opStep, wantedA, opA, evo, evos, calleeA, lk, nif_eq, putE, paramsE, valS, val2, keepE, restrict, finA, resA, binA, binInt, ofConst, ofConst1, loadA, TK.isAgg, asVar, unA, builtinA, lenOpA, lenA, ileb_cast, ileb_eq, ieqb_dec, indexAddrA, inB_dec, evPairs, storeA, AV.cellsOf, pairsOf, xI_nil, binBool, gcE, evOpt, xI_block, xI_loopH, xI_condM, xI_exitM, xI_skip, xI_blk, exitA, ty2, ty3, ty145, h, h1, h2, convA]
theorem v142 (c : Nat) (hc : c ≤ 16) : FnV TT 142 [.int .i64 (pw c : Nat)] (.int .i64 c) := by
  refine FnV.mk fn142 rfl md142 ⟨⟨[], 0⟩, ?_⟩ (fun _ => rfl) rfl
  have h : callI TT 146 [.int .u64 (pw c : Nat)] ⟨[], 0⟩ = some (.int .i64 ((c : Int) + 1), ⟨[], 0⟩) := v146 c hc _ _ rfl
  have hp := pw_16 hc
  have h1 := n_wrapu (a := pw c) (by omega)
  have h2 : wrapA .i64 ((c : Int) + 1 - 1) = (c : Int) := by rw [wrapA_id (by omega) (by omega)]; omega
  have h3 : wrapA .i64 (c : Int) = (c : Int) := wrapA_id (by omega) (by omega)
  rw [fi142]
  simp [xI_seq, xI_region, xI_ret, regA, regOps, runOps, opStep, wantedA, opA, evo, evos, calleeA, lk, nif_eq, putE, paramsE, valS, val2, keepE, restrict, finA, resA, binA, binInt, ofConst, ofConst1, loadA, TK.isAgg, asVar, unA, builtinA, lenOpA, lenA, ileb_cast, ileb_eq, ieqb_dec, indexAddrA, inB_dec, evPairs, storeA, AV.cellsOf, pairsOf, xI_nil, binBool, gcE, evOpt, xI_block, xI_loopH, xI_condM, xI_exitM, xI_skip, xI_blk, exitA, ty2, ty3, ty145, h, h1, h2, h3, convA]
/-- The least unknown, or -1. -/
def ldI (w r : Nat) : Int := if lead w r = w then -1 else (lead w r : Nat)
theorem lead_mod (w r : Nat) : lead w (r % 2 ^ w) = lead w r := by
  rcases Nat.lt_or_ge (lead w r) w with h | h
  · refine lead_eq h ?_ fun i hi => ?_
    · rw [Nat.testBit_mod_two_pow]; simp [h, lead_bit h]
    · rw [Nat.testBit_mod_two_pow]; simp [lead_low hi]
  · have h1 : lead w r = w := Nat.le_antisymm (lead_le w r) h
    rcases Nat.lt_or_ge (lead w (r % 2 ^ w)) w with h2 | h2
    · have := lead_bit h2
      rw [Nat.testBit_mod_two_pow, lead_low (w := w) (n := r) (by omega)] at this
      simp at this
    · rw [h1]; exact Nat.le_antisymm (lead_le _ _) h2
theorem mod_zero {w r : Nat} (h : lead w r = w) : r % 2 ^ w = 0 := by
  apply Nat.eq_of_testBit_eq
  intro i
  rw [Nat.testBit_mod_two_pow, Nat.zero_testBit]
  rcases Nat.lt_or_ge i w with hi | hi
  · rw [lead_low (w := w) (n := r) (by omega)]; simp
  · simp; omega
theorem and_mask (r w : Nat) : andN r (subN (pw w) 1) = modN r (pw w) := Nat.and_two_pow_sub_one_eq_mod r w
theorem c117 (w r : Nat) (hw : w ≤ 16) (hr : r < 2 ^ 62) (σ : St) (e : Nat) (x : Blk) (v : AV) (he : σ.get e = some x) (hx : x.cells = [.int .i64 w, v]) : callI TT 117 [.ptr e 0, .int .i64 r] σ = some (.int .i64 (ldI w r), σ) := by
  have hcw : cellsAt σ (.ptr e 0) 1 = some [.int .i64 w] := by simp [cellsAt, he, hx, getCells, takeN, dropN]
  have hp := pw_16 hw
  have hpp := pw_pos w
  have e1 := sh_1 (b := w) (by omega)
  have e2 : wrapA .i64 (((pw w : Nat) : Int) - 1) = ((subN (pw w) 1 : Nat) : Int) := by rw [pw_dec hw]; show _ = ((pw w - 1 : Nat) : Int); omega
  have e3 := n_and (a := r) (b := subN (pw w) 1) (lt_62 hr) (by show pw w - 1 ≤ _; omega)
  rw [and_mask] at e3
  obtain ⟨u, hu⟩ : ∃ u, u = modN r (pw w) := ⟨_, rfl⟩
  rw [← hu] at e3
  have hu1 : u = r % 2 ^ w := hu
  have hul : u < pw w := by rw [hu]; exact Nat.mod_lt _ hpp
  have e4 : wrapA .i64 (-(u : Int)) = -(u : Int) := wrapA_id (by omega) (by omega)
  rw [cI_0 fn117 rfl md117, fi117]
  by_cases h : lead w r = w
  · have h0 : u = 0 := by rw [hu1]; exact mod_zero h
    subst h0
    rw [show ldI w r = -1 by simp [ldI, h]]
    have hd : callI TT 142 [.int .i64 0] σ = some (.int .i64 (-1), σ) := v142z σ _ rfl
    have hz : bitsA .and .i64 0 0 = some (.int .i64 0) := rfl
    have hz2 : wrapA .i64 0 = 0 := by decide
    simp only [show ((0 : Nat) : Int) = 0 from rfl] at e3
    simp [xI_seq, xI_region, xI_ret, regA, regOps, runOps, opStep, wantedA, opA, evo, evos, calleeA, lk, nif_eq, putE, paramsE, valS, val2, keepE, restrict, finA, resA, binA, binInt, ofConst, ofConst1, loadA, TK.isAgg, asVar, unA, builtinA, lenOpA, lenA, ileb_cast, ileb_eq, ieqb_dec, indexAddrA, inB_dec, evPairs, storeA, AV.cellsOf, pairsOf, xI_nil, binBool, gcE, evOpt, xI_block, xI_loopH, xI_condM, xI_exitM, xI_skip, xI_blk, exitA, ty2, ty3, ty127, fieldAddrA, ty2, ty3, ty33, ty127, hcw, e1, e2, e3, hd, hz, hz2]
  · have hl : lead w r < w := Nat.lt_of_le_of_ne (lead_le w r) h
    rw [show ldI w r = ((lead w r : Nat) : Int) by simp [ldI, h]]
    have hlu : lead w u = lead w r := by rw [hu1]; exact lead_mod w r
    have hpos : 0 < u := by
      rcases Nat.eq_zero_or_pos u with h0 | h0
      · have := lead_bit (w := w) (n := u) (by omega)
        rw [h0] at this; simp at this
      · exact h0
    have hb : bitsA .and .i64 (u : Int) (-(u : Int)) = some (.int .i64 ((pw (lead w r) : Nat) : Int)) := by
      obtain ⟨u', rfl⟩ : ∃ u', u = u' + 1 := ⟨u - 1, by omega⟩
      have h1 : smallNat .i64 ((u' + 1 : Nat) : Int) (-((u' + 1 : Nat) : Int)) = none := rfl
      unfold bitsA
      rw [h1]
      have h2 : (BitVec.ofInt IntKind.i64.bits ((u' + 1 : Nat) : Int) &&& BitVec.ofInt IntKind.i64.bits (-((u' + 1 : Nat) : Int))).toNat = pw (lead w r) := by
        have h3 := neg_bits (u := u' + 1) (by omega) (by omega)
        rw [and_neg_lead (w := w) (by omega) (by omega) (by omega), hlu] at h3
        exact h3
      simp only [h2]
      have hp2 := pw_16 (k := lead w r) (by omega)
      have h4 : IntKind.i64.wrap ((pw (lead w r) : Nat) : Int) = ((pw (lead w r) : Nat) : Int) := by rw [← wrapA_eq]; exact n_wrap (by omega)
      rw [h4]
    have hd : callI TT 142 [.int .i64 (pw (lead w r) : Nat)] σ = some (.int .i64 (lead w r : Nat), σ) := v142 (lead w r) (by omega) σ _ rfl
    simp [xI_seq, xI_region, xI_ret, regA, regOps, runOps, opStep, wantedA, opA, evo, evos, calleeA, lk, nif_eq, putE, paramsE, valS, val2, keepE, restrict, finA, resA, binA, binInt, ofConst, ofConst1, loadA, TK.isAgg, asVar, unA, builtinA, lenOpA, lenA, ileb_cast, ileb_eq, ieqb_dec, indexAddrA, inB_dec, evPairs, storeA, AV.cellsOf, pairsOf, xI_nil, binBool, gcE, evOpt, xI_block, xI_loopH, xI_condM, xI_exitM, xI_skip, xI_blk, exitA, ty2, ty3, ty127, fieldAddrA, ty2, ty3, ty33, ty127, hcw, e1, e2, e3, e4, hb, hd]

/-- Equations in the heap. -/
def ES (σ : St) (e lo w : Nat) (rows : List Nat) (v : AV) : Prop := e < σ.n ∧ lo ≤ σ.n ∧ σ.get e = some ⟨[.int .i64 w, v], 2, false⟩ ∧ ((v = .nilS ∧ rows = []) ∨ ∃ b, lo ≤ b ∧ b ≠ e ∧ v = .sl b 0 rows.length rows.length ∧ Row σ b (nints rows))
theorem ES.w {σ : St} {e lo w : Nat} {rows : List Nat} {v : AV} (h : ES σ e lo w rows v) : cellsAt σ (.ptr e 0) 1 = some [.int .i64 w] := by
  obtain ⟨_, _, h, _⟩ := h
  simp [cellsAt, h, getCells, takeN, dropN]
theorem ES.v {σ : St} {e lo w : Nat} {rows : List Nat} {v : AV} (h : ES σ e lo w rows v) : cellsAt σ (.ptr e 1) 1 = some [v] := by
  obtain ⟨_, _, h, _⟩ := h
  simp [cellsAt, h, getCells, takeN, dropN]
theorem ES.len {σ : St} {e lo w : Nat} {rows : List Nat} {v : AV} (h : ES σ e lo w rows v) : lenA v = some rows.length := by
  obtain ⟨_, _, _, h⟩ := h
  rcases h with ⟨rfl, rfl⟩ | ⟨b, _, _, rfl, _⟩ <;> rfl
/-- Rows that are fit for reducing. -/
def Fine (w : Nat) (rows : List Nat) : Prop := ∀ r ∈ rows, r < 2 ^ (w + 1) ∧ lead w r < w
theorem bit_mod (r l : Nat) : (modN (shrN r l) 2 = 1) ↔ r.testBit l = true := by
  rw [Nat.testBit_eq_decide_div_mod_eq]; simp [modN, shrN]
theorem lt_w {w r : Nat} (hw : w ≤ 16) (h : r < 2 ^ (w + 1)) : r < 2 ^ 62 := Nat.lt_of_lt_of_le h (Nat.pow_le_pow_right (by decide) (by omega))
theorem xor_w {w a b : Nat} (ha : a < 2 ^ (w + 1)) (hb : b < 2 ^ (w + 1)) : xorN a b < 2 ^ (w + 1) := Nat.xor_lt_two_pow ha hb

noncomputable def b116 : Code := Try.f116.body.getD .skip
noncomputable def B116_0 : Code := (bodyC (bodyC (sndC (fstC (sndC b116)))))
noncomputable def K116_0 : List It := .lp B116_0 :: .blk 0 :: .code (sndC (sndC b116)) :: []
theorem xl116_0 {fi : FI} {env : Env} {σ : St} : exI TT fi K116_0 env σ = exI TT fi (.code B116_0 :: K116_0) env σ := by unfold K116_0; exact xI_lp
noncomputable def R116_0_0 : List It := .code (sndC (sndC b116)) :: []
theorem eK116_0_0 : exitA 0 K116_0 = some R116_0_0 := rfl
theorem l116 (w : Nat) (hw : w ≤ 16) (σ : St) (e lo : Nat) (rows : List Nat) (v : AV) (hE : ES σ e lo w rows v) (hf : Fine w rows) (len : Nat) (hlen : len = rows.length) (hl : len ≤ 100000) : ∀ (suf pre : List Nat) (row : Nat), rows = pre ++ suf → row < 2 ^ (w + 1) →
    exI TT (FI.of Try.f116 (TT.an 116)) K116_0 [(0, .ptr e 0), (1, .int .i64 row), (11, v), (12, .int .i64 len), (13, .int .i64 pre.length)] σ = some (.int .i64 (reduced w suf row : Nat), σ) := by
  intro suf
  induction suf with
  | nil =>
    intro pre row hp hr
    have hll : len = pre.length := by rw [hlen, hp]; simp
    subst hll
    rw [show reduced w [] row = row from rfl]
    rw [fi116]
    rw [xl116_0]
    simp only [B116_0, b116, Try.f116, Option.getD, fstC, sndC, bodyC, thnC, elsC]
    simp [xI_seq, xI_region, xI_ret, regA, regOps, runOps, opStep, wantedA, opA, evo, evos, calleeA, lk, nif_eq, putE, paramsE, valS, val2, keepE, restrict, finA, resA, binA, binInt, ofConst, ofConst1, loadA, TK.isAgg, asVar, unA, builtinA, lenOpA, lenA, ileb_cast, ileb_eq, ieqb_dec, indexAddrA, inB_dec, evPairs, storeA, AV.cellsOf, pairsOf, xI_nil, binBool, gcE, evOpt, xI_block, xI_loopH, xI_condM, xI_exitM, xI_skip, xI_blk, exitA, ty2, ty3, ty33, ty127, eK116_0_0]
    simp only [R116_0_0, b116, Try.f116, Option.getD, fstC, sndC, bodyC, thnC, elsC]
    simp [xI_seq, xI_region, xI_ret, regA, regOps, runOps, opStep, wantedA, opA, evo, evos, calleeA, lk, nif_eq, putE, paramsE, valS, val2, keepE, restrict, finA, resA, binA, binInt, ofConst, ofConst1, loadA, TK.isAgg, asVar, unA, builtinA, lenOpA, lenA, ileb_cast, ileb_eq, ieqb_dec, indexAddrA, inB_dec, evPairs, storeA, AV.cellsOf, pairsOf, xI_nil, binBool, gcE, evOpt, xI_block, xI_loopH, xI_condM, xI_exitM, xI_skip, xI_blk, exitA, ty2, ty3, ty33, ty127, eK116_0_0]
  | cons o suf ih =>
    intro pre row hp hr
    have hll : len = pre.length + (suf.length + 1) := by rw [hlen, hp]; simp
    have ho := hf o (by simp [hp])
    have hg : (nints rows)[pre.length]? = some (o : Int) := nints_get (by simp [hp])
    have hlt : ¬ len ≤ pre.length := by omega
    have hlt2 : pre.length < len := by omega
    have hlt3 : pre.length < rows.length := by omega
    have hw1 := wrapS (n := pre.length) (by omega)
    have hcw := hE.w
    obtain ⟨e1, e2, e3, e4⟩ := hE
    have hL := c117 w o hw (lt_w hw ho.1) σ e _ v e3 rfl
    rw [show ldI w o = ((lead w o : Nat) : Int) by unfold ldI; rw [if_neg (by omega)]] at hL
    obtain ⟨b, hb1, hb2, rfl, hrow⟩ : ∃ b, lo ≤ b ∧ b ≠ e ∧ v = .sl b 0 rows.length rows.length ∧ Row σ b (nints rows) := by
      rcases e4 with ⟨_, h⟩ | h
      · rw [h] at hp; simp at hp
      · exact h
    have hrd := hrow.read hg
    have s1 := sh_r (a := row) (b := lead w o) (by omega)
    have hsl : shrN row (lead w o) ≤ row := Nat.div_le_self _ _
    have hr62 := lt_w hw hr
    have s2 := n_and1 (a := shrN row (lead w o)) (lt_62 (by omega))
    have s3 := n_xor (a := row) (b := o) (lt_62 hr62) (lt_62 (lt_w hw ho.1))
    have s4 : ¬ ((lead w o : Nat) : Int) < 0 := by omega
    by_cases hb : row.testBit (lead w o) = true
    · have hm := (bit_mod row (lead w o)).2 hb
      have hm' : ((modN (shrN row (lead w o)) 2 : Nat) : Int) = 1 := by omega
      have h1 := ih (pre ++ [o]) (xorN row o) (by simp [hp]) (xor_w hr ho.1)
      rw [show reduced w (o :: suf) row = reduced w suf (xorN row o) by simp only [reduced, List.foldl_cons]; rw [if_pos hb]; rfl]
      simp only [List.length_append, List.length_singleton] at h1
      rw [fi116] at h1 ⊢
      rw [xl116_0]
      simp only [B116_0, b116, Try.f116, Option.getD, fstC, sndC, bodyC, thnC, elsC]
      simp [xI_seq, xI_region, xI_ret, regA, regOps, runOps, opStep, wantedA, opA, evo, evos, calleeA, lk, nif_eq, putE, paramsE, valS, val2, keepE, restrict, finA, resA, binA, binInt, ofConst, ofConst1, loadA, TK.isAgg, asVar, unA, builtinA, lenOpA, lenA, ileb_cast, ileb_eq, ieqb_dec, indexAddrA, inB_dec, evPairs, storeA, AV.cellsOf, pairsOf, xI_nil, binBool, gcE, evOpt, xI_block, xI_loopH, xI_condM, xI_exitM, xI_skip, xI_blk, exitA, ty2, ty3, ty33, ty127, eK116_0_0, fieldAddrA, ty2, ty3, ty33, ty127, hlt, hlt2, hlt3, hw1, hcw, hL, hrd, s1, s2, s3, s4, hm, hm']
      simpa using h1
    · have hm : ¬ modN (shrN row (lead w o)) 2 = 1 := fun h => hb ((bit_mod row (lead w o)).1 h)
      have hm' : ¬ ((modN (shrN row (lead w o)) 2 : Nat) : Int) = 1 := by omega
      have h1 := ih (pre ++ [o]) row (by simp [hp]) hr
      rw [show reduced w (o :: suf) row = reduced w suf row by simp only [reduced, List.foldl_cons]; rw [if_neg hb]]
      simp only [List.length_append, List.length_singleton] at h1
      rw [fi116] at h1 ⊢
      rw [xl116_0]
      simp only [B116_0, b116, Try.f116, Option.getD, fstC, sndC, bodyC, thnC, elsC]
      simp [xI_seq, xI_region, xI_ret, regA, regOps, runOps, opStep, wantedA, opA, evo, evos, calleeA, lk, nif_eq, putE, paramsE, valS, val2, keepE, restrict, finA, resA, binA, binInt, ofConst, ofConst1, loadA, TK.isAgg, asVar, unA, builtinA, lenOpA, lenA, ileb_cast, ileb_eq, ieqb_dec, indexAddrA, inB_dec, evPairs, storeA, AV.cellsOf, pairsOf, xI_nil, binBool, gcE, evOpt, xI_block, xI_loopH, xI_condM, xI_exitM, xI_skip, xI_blk, exitA, ty2, ty3, ty33, ty127, eK116_0_0, fieldAddrA, ty2, ty3, ty33, ty127, hlt, hlt2, hlt3, hw1, hcw, hL, hrd, s1, s2, s3, s4, hm, hm']
      simpa using h1
theorem c116 (w : Nat) (hw : w ≤ 16) (σ : St) (e lo : Nat) (rows : List Nat) (v : AV) (hE : ES σ e lo w rows v) (hf : Fine w rows) (hl : rows.length ≤ 100000) (row : Nat) (hr : row < 2 ^ (w + 1)) :
    callI TT 116 [.ptr e 0, .int .i64 row] σ = some (.int .i64 (reduced w rows row : Nat), σ) := by
  have h := l116 w hw σ e lo rows v hE hf rows.length rfl hl rows [] row rfl hr
  have hv := hE.v
  have hn := hE.len
  simp only [List.length_nil, Int.natCast_zero, show ((0 : Nat) : Int) = 0 from rfl] at h
  rw [cI_0 fn116 rfl md116, ← h, fi116]
  obtain ⟨_, _, _, hE4⟩ := hE
  rcases hE4 with ⟨rfl, rfl⟩ | ⟨b, hb1, hb2, rfl, hrow⟩
  · simp [xI_seq, xI_region, xI_ret, regA, regOps, runOps, opStep, wantedA, opA, evo, evos, calleeA, lk, nif_eq, putE, paramsE, valS, val2, keepE, restrict, finA, resA, binA, binInt, ofConst, ofConst1, loadA, TK.isAgg, asVar, unA, builtinA, lenOpA, lenA, ileb_cast, ileb_eq, ieqb_dec, indexAddrA, inB_dec, evPairs, storeA, AV.cellsOf, pairsOf, xI_nil, binBool, gcE, evOpt, xI_block, xI_loopH, xI_condM, xI_exitM, xI_skip, xI_blk, exitA, ty2, ty3, ty33, ty127, eK116_0_0, fieldAddrA, ty2, ty3, ty33, ty127, hv]
    rfl
  · simp [xI_seq, xI_region, xI_ret, regA, regOps, runOps, opStep, wantedA, opA, evo, evos, calleeA, lk, nif_eq, putE, paramsE, valS, val2, keepE, restrict, finA, resA, binA, binInt, ofConst, ofConst1, loadA, TK.isAgg, asVar, unA, builtinA, lenOpA, lenA, ileb_cast, ileb_eq, ieqb_dec, indexAddrA, inB_dec, evPairs, storeA, AV.cellsOf, pairsOf, xI_nil, binBool, gcE, evOpt, xI_block, xI_loopH, xI_condM, xI_exitM, xI_skip, xI_blk, exitA, ty2, ty3, ty33, ty127, eK116_0_0, fieldAddrA, ty2, ty3, ty33, ty127, hv]
    rfl
theorem reduced_lt (w : Nat) : ∀ (rows : List Nat) (row : Nat), Fine w rows → row < 2 ^ (w + 1) → reduced w rows row < 2 ^ (w + 1)
  | [], _, _, h => h
  | o :: rows, row, hf, h => by
    simp only [reduced, List.foldl_cons]
    exact reduced_lt w rows _ (fun r hr => hf r (by simp [hr])) (by split; exact xor_w h (hf o (by simp)).1; exact h)

end Go.Proofs.Ytonnbgjbohbibaa
