/- Contracts: equations added, least solutions. Nothing is claimed here; no condition. -/
import Derived.Test.YtonnbgjbohbibaaEp
namespace Go.Proofs.Ytonnbgjbohbibaa
open Go Go.Abs
set_option linter.unusedSimpArgs false
set_option linter.unusedVariables false
open Go.Wd
theorem append_nil1 {T : Tab} {σ : St} {x : Int} {st e : TypeId} (ht : T.ty st = some ⟨.slice e, 1, 24, [.nilS]⟩) (he : T.ty e = some ⟨.int .i64, 1, 8, [.int .i64 0]⟩) :
    appendA T (σ.push ⟨[.int .i64 x], 1, false⟩) st st .nilS (.sl σ.n 0 1 1) = some (.sl (σ.n + 1) 0 1 1, (σ.push ⟨[.int .i64 x], 1, false⟩).push ⟨[.int .i64 x], 1, true⟩) := by
  unfold appendA
  have h1 : firstA (σ.push ⟨[.int .i64 x], 1, false⟩) 1 1 (.sl σ.n 0 1 1) = some [.int .i64 x] := by
    simp [firstA, get_push_same, getCells, dropN, takeN]
  simp only [ht, he, lenA, h1, allOne, AV.one]
  simp [n_push]
theorem ES.app {T : Tab} {σ : St} {e lo w : Nat} {rows : List Nat} {x : Nat} {v : AV} {st el : TypeId} (ht : T.ty st = some ⟨.slice el, 1, 24, [.nilS]⟩) (he : T.ty el = some ⟨.int .i64, 1, 8, [.int .i64 0]⟩) (h : ES σ e lo w rows v) (hs : rows.length < 1000000) :
    ∃ b' σ1 σ', appendA T (σ.push ⟨[.int .i64 (x : Int)], 1, false⟩) st st v (.sl σ.n 0 1 1) = some (.sl b' 0 (rows.length + 1) (rows.length + 1), σ1) ∧ storeCellsA σ1 e 1 [.sl b' 0 (rows.length + 1) (rows.length + 1)] = some σ' ∧ ES σ' e lo w (rows ++ [x]) (.sl b' 0 (rows.length + 1) (rows.length + 1)) ∧ σ.n ≤ σ'.n ∧ ∀ c, c < lo → c ≠ e → σ'.get c = σ.get c := by
  obtain ⟨h1, h2, h3, h4⟩ := h
  have fin : ∀ σ1 : St, σ1.n = σ.n + 2 → σ1.get e = some ⟨[.int .i64 w, v], 2, false⟩ → Row σ1 (σ.n + 1) (nints (rows ++ [x])) → (∀ c, c < lo → c ≠ e → σ1.get c = σ.get c) →
      ∃ σ', storeCellsA σ1 e 1 [.sl (σ.n + 1) 0 (rows.length + 1) (rows.length + 1)] = some σ' ∧ ES σ' e lo w (rows ++ [x]) (.sl (σ.n + 1) 0 (rows.length + 1) (rows.length + 1)) ∧ σ.n ≤ σ'.n ∧ ∀ c, c < lo → c ≠ e → σ'.get c = σ.get c := by
    intro σ1 hn hq hr hc
    have hr' : Row (σ1.set e ⟨[.int .i64 w, .sl (σ.n + 1) 0 (rows.length + 1) (rows.length + 1)], 2, false⟩) (σ.n + 1) (nints (rows ++ [x])) := hr.keep (Nat.le_refl _) (get_set_ne (by omega))
    refine ⟨σ1.set e ⟨[.int .i64 w, .sl (σ.n + 1) 0 (rows.length + 1) (rows.length + 1)], 2, false⟩, ?_, ⟨?_, ?_, get_set_eq hq, .inr ⟨σ.n + 1, by omega, by omega, by simp, hr'⟩⟩, ?_, ?_⟩
    · simp [storeCellsA, hq, allOne, AV.one, putN, overN]
    · rw [n_set, hn]; omega
    · rw [n_set, hn]; omega
    · rw [n_set, hn]; omega
    · intro c hc2 hce
      rw [get_set_ne (fun h => hce h.symm)]; exact hc c hc2 hce
  rcases h4 with ⟨rfl, rfl⟩ | ⟨b, hb2, hbq, rfl, hr⟩
  · obtain ⟨σ', g1, g2, g3, g4⟩ := fin ((σ.push ⟨[.int .i64 (x : Int)], 1, false⟩).push ⟨[.int .i64 (x : Int)], 1, true⟩) rfl (by rw [get_push_lt (by rw [n_push]; omega), get_push_lt h1]; exact h3) ⟨true, get_push_same, Nat.lt_succ_self _⟩ (fun c hc _ => by rw [get_push_lt (by rw [n_push]; omega), get_push_lt (by omega)])
    exact ⟨σ.n + 1, _, σ', append_nil1 ht he, g1, g2, g3, g4⟩
  · have hrl := hr.lt
    obtain ⟨σ1, ha, hr1, hn, hu⟩ := nints_append_row (x := x) ht he hr (n := rows.length) rfl (by omega)
    obtain ⟨σ', g1, g2, g3, g4⟩ := fin σ1 hn ((hu e (fun h => hbq h.symm) h1).trans h3) hr1 (fun c hc _ => hu c (by omega) (by omega))
    exact ⟨σ.n + 1, σ1, σ', ha, g1, g2, g3, g4⟩
/-- What adding a row makes of another. -/
def clr (w r o : Nat) : Nat := if o.testBit (lead w r) = true then xorN o r else o
/-- An equation: a mask with a right side. -/
def eqn (w mask right : Nat) : Nat := orN mask (shlN right w)
theorem eqn_lt {w mask right : Nat} (hm : mask < 2 ^ w) (hr : right ≤ 1) : eqn w mask right < 2 ^ (w + 1) := by
  have h1 : right * 2 ^ w ≤ 1 * 2 ^ w := Nat.mul_le_mul_right _ hr
  have h2 : 2 ^ (w + 1) = 2 ^ w * 2 := Nat.pow_succ 2 w
  have h3 : 0 < 2 ^ w := Nat.pow_pos (by decide)
  exact Nat.or_lt_two_pow (by omega) (show right * 2 ^ w < _ by omega)
theorem add_eq (w : Nat) (rows : List Nat) (row : Nat) : add w rows row = if lead w (reduced w rows row) = w then (if reduced w rows row = 0 then some rows else none) else some (rows.map (clr w (reduced w rows row)) ++ [reduced w rows row]) := rfl

noncomputable def b107 : Code := Try.f107.body.getD .skip
noncomputable def B107_0 : Code := (bodyC (bodyC (sndC (fstC (sndC (sndC (sndC b107)))))))
noncomputable def K107_0 : List It := .lp B107_0 :: .blk 0 :: .code (sndC (sndC (sndC (sndC b107)))) :: []
theorem xl107_0 {fi : FI} {env : Env} {σ : St} : exI TT fi K107_0 env σ = exI TT fi (.code B107_0 :: K107_0) env σ := by unfold K107_0; exact xI_lp
noncomputable def R107_0_0 : List It := .code (sndC (sndC (sndC (sndC b107)))) :: []
theorem eK107_0_0 : exitA 0 K107_0 = some R107_0_0 := rfl
theorem l107 (w : Nat) (hw : w ≤ 16) (e lo : Nat) (rows : List Nat) (v : AV) (hf : Fine w rows) (r : Nat) (hr : r < 2 ^ (w + 1)) (hlr : lead w r < w) (len : Nat) (hlen : len = rows.length) (hl : len ≤ 100000) : ∀ (suf pre : List Nat) (σ : St), rows = pre ++ suf → ES σ e lo w (pre.map (clr w r) ++ suf) v →
    ∃ σ' v', exI TT (FI.of Try.f107 (TT.an 107)) K107_0 [(0, .ptr e 0), (7, .int .i64 r), (29, v), (30, .int .i64 len), (31, .int .i64 pre.length)] σ = some (.bool true, σ') ∧ ES σ' e lo w (rows.map (clr w r) ++ [r]) v' ∧ σ.n ≤ σ'.n ∧ ∀ c, c < lo → c ≠ e → σ'.get c = σ.get c := by
  intro suf
  induction suf with
  | nil =>
    intro pre σ hp hE
    have hll : len = pre.length := by rw [hlen, hp]; simp
    have hp : rows = pre := by simpa using hp
    subst hp
    subst hll
    simp only [List.append_nil] at hE
    obtain ⟨b', σ1, σ', a1, a2, a3, a4, a5⟩ := ES.app (x := r) ty33 ty2 hE (by simp; omega)
    have hv := hE.v
    simp only [List.length_map] at a1 a2 a3
    refine ⟨σ', _, ?_, a3, a4, a5⟩
    rw [fi107]
    rw [xl107_0]
    simp only [B107_0, b107, Try.f107, Option.getD, fstC, sndC, bodyC, thnC, elsC]
    simp [xI_seq, xI_region, xI_ret, regA, regOps, runOps, opStep, wantedA, opA, evo, evos, calleeA, lk, nif_eq, putE, paramsE, valS, val2, keepE, restrict, finA, resA, binA, binInt, ofConst, ofConst1, loadA, TK.isAgg, asVar, unA, builtinA, lenOpA, lenA, ileb_cast, ileb_eq, ieqb_dec, indexAddrA, inB_dec, evPairs, storeA, AV.cellsOf, pairsOf, xI_nil, binBool, gcE, evOpt, xI_block, xI_loopH, xI_condM, xI_exitM, xI_skip, xI_blk, exitA, ty2, ty3, ty33, ty127, eK107_0_0]
    simp only [R107_0_0, b107, Try.f107, Option.getD, fstC, sndC, bodyC, thnC, elsC]
    simp [xI_seq, xI_region, xI_ret, regA, regOps, runOps, opStep, wantedA, opA, evo, evos, calleeA, lk, nif_eq, putE, paramsE, valS, val2, keepE, restrict, finA, resA, binA, binInt, ofConst, ofConst1, loadA, TK.isAgg, asVar, unA, builtinA, lenOpA, lenA, ileb_cast, ileb_eq, ieqb_dec, indexAddrA, inB_dec, evPairs, storeA, AV.cellsOf, pairsOf, xI_nil, binBool, gcE, evOpt, xI_block, xI_loopH, xI_condM, xI_exitM, xI_skip, xI_blk, exitA, ty2, ty3, ty33, ty127, eK107_0_0, fieldAddrA, ty2, ty3, ty33, ty127, allOne, AV.one, hv, bs1, a1, a2]
  | cons o suf ih =>
    intro pre σ hp hE
    have hll : len = pre.length + (suf.length + 1) := by rw [hlen, hp]; simp
    have ho := hf o (by simp [hp])
    have hlt : ¬ len ≤ pre.length := by omega
    have hlt2 : pre.length < len := by omega
    have hlt3 : pre.length < pre.length + (suf.length + 1) := by omega
    have hw1 := wrapS (n := pre.length) (by omega)
    have hv := hE.v
    have hE0 := hE
    obtain ⟨e1, e2, e3, e4⟩ := hE
    have hL := c117 w r hw (lt_w hw hr) σ e _ v e3 rfl
    rw [show ldI w r = ((lead w r : Nat) : Int) by unfold ldI; rw [if_neg (by omega)]] at hL
    obtain ⟨b, hb1, hb2, rfl, hrow⟩ : ∃ b, lo ≤ b ∧ b ≠ e ∧ v = .sl b 0 (pre.map (clr w r) ++ o :: suf).length (pre.map (clr w r) ++ o :: suf).length ∧ Row σ b (nints (pre.map (clr w r) ++ o :: suf)) := by
      rcases e4 with ⟨_, h⟩ | h
      · simp at h
      · exact h
    have hg : (nints (pre.map (clr w r) ++ o :: suf))[pre.length]? = some (o : Int) := nints_get (by rw [List.getElem?_append_right (by simp)]; simp)
    have hrd := hrow.read hg
    have s1 := sh_r (a := o) (b := lead w r) (by omega)
    have hsl : shrN o (lead w r) ≤ o := Nat.div_le_self _ _
    have ho62 := lt_w hw ho.1
    have s2 := n_and1 (a := shrN o (lead w r)) (lt_62 (by omega))
    have s3 := n_xor (a := o) (b := r) (lt_62 ho62) (lt_62 (lt_w hw hr))
    have s4 : ¬ ((lead w r : Nat) : Int) < 0 := by omega
    have hlenv : (pre.map (clr w r) ++ o :: suf).length = len := by rw [hll]; simp
    by_cases hb : o.testBit (lead w r) = true
    · have hm := (bit_mod o (lead w r)).2 hb
      have hm' : ((modN (shrN o (lead w r)) 2 : Nat) : Int) = 1 := by omega
      obtain ⟨σ1, hst, hr1, hn1, hu1⟩ := store_row (i := pre.length) (x := (xorN o r : Nat)) hrow (by rw [nints_length]; simp)
      rw [nints_set, show (pre.map (clr w r) ++ o :: suf).set pre.length (xorN o r) = (pre ++ [o]).map (clr w r) ++ suf by
        have := List.set_append_right (s := pre.map (clr w r)) (t := o :: suf) pre.length (xorN o r) (by simp)
        rw [this]; simp [clr, hb]] at hr1
      have hE1 : ES σ1 e lo w ((pre ++ [o]).map (clr w r) ++ suf) (.sl b 0 (pre.map (clr w r) ++ o :: suf).length (pre.map (clr w r) ++ o :: suf).length) := by
        refine ⟨by omega, by omega, by rw [hu1 e (fun h => hb2 h.symm)]; exact e3, .inr ⟨b, hb1, hb2, ?_, hr1⟩⟩
        simp
      obtain ⟨σ', v', h1, h2, h3, h4⟩ := ih (pre ++ [o]) σ1 (by simp [hp]) hE1
      refine ⟨σ', v', ?_, h2, by omega, fun c hc hce => (h4 c hc hce).trans (hu1 c (by omega))⟩
      simp only [hlenv, show (pre ++ [o]).length = pre.length + 1 by simp] at h1 hv ⊢
      rw [fi107] at h1 ⊢
      rw [xl107_0]
      simp only [B107_0, b107, Try.f107, Option.getD, fstC, sndC, bodyC, thnC, elsC]
      simp [xI_seq, xI_region, xI_ret, regA, regOps, runOps, opStep, wantedA, opA, evo, evos, calleeA, lk, nif_eq, putE, paramsE, valS, val2, keepE, restrict, finA, resA, binA, binInt, ofConst, ofConst1, loadA, TK.isAgg, asVar, unA, builtinA, lenOpA, lenA, ileb_cast, ileb_eq, ieqb_dec, indexAddrA, inB_dec, evPairs, storeA, AV.cellsOf, pairsOf, xI_nil, binBool, gcE, evOpt, xI_block, xI_loopH, xI_condM, xI_exitM, xI_skip, xI_blk, exitA, ty2, ty3, ty33, ty127, eK107_0_0, fieldAddrA, ty2, ty3, ty33, ty127, allOne, AV.one, hlt, hlt2, hlt3, hw1, hv, hL, hrd, hst, s1, s2, s3, s4, hm, hm']
      simpa using h1
    · have hm : ¬ modN (shrN o (lead w r)) 2 = 1 := fun h => hb ((bit_mod o (lead w r)).1 h)
      have hm' : ¬ ((modN (shrN o (lead w r)) 2 : Nat) : Int) = 1 := by omega
      have hE1 : ES σ e lo w ((pre ++ [o]).map (clr w r) ++ suf) (.sl b 0 (pre.map (clr w r) ++ o :: suf).length (pre.map (clr w r) ++ o :: suf).length) := by
        have : (pre ++ [o]).map (clr w r) ++ suf = pre.map (clr w r) ++ o :: suf := by simp [clr, hb]
        rw [this]; exact hE0
      obtain ⟨σ', v', h1, h2, h3, h4⟩ := ih (pre ++ [o]) σ (by simp [hp]) hE1
      refine ⟨σ', v', ?_, h2, h3, h4⟩
      simp only [hlenv, show (pre ++ [o]).length = pre.length + 1 by simp] at h1 hv ⊢
      rw [fi107] at h1 ⊢
      rw [xl107_0]
      simp only [B107_0, b107, Try.f107, Option.getD, fstC, sndC, bodyC, thnC, elsC]
      simp [xI_seq, xI_region, xI_ret, regA, regOps, runOps, opStep, wantedA, opA, evo, evos, calleeA, lk, nif_eq, putE, paramsE, valS, val2, keepE, restrict, finA, resA, binA, binInt, ofConst, ofConst1, loadA, TK.isAgg, asVar, unA, builtinA, lenOpA, lenA, ileb_cast, ileb_eq, ieqb_dec, indexAddrA, inB_dec, evPairs, storeA, AV.cellsOf, pairsOf, xI_nil, binBool, gcE, evOpt, xI_block, xI_loopH, xI_condM, xI_exitM, xI_skip, xI_blk, exitA, ty2, ty3, ty33, ty127, eK107_0_0, fieldAddrA, ty2, ty3, ty33, ty127, hlt, hlt2, hlt3, hw1, hv, hL, hrd, s1, s2, s3, s4, hm, hm']
      simpa using h1

theorem fine_add {w : Nat} {rows : List Nat} {row : Nat} {rows' : List Nat} (hf : Fine w rows) (h : add w rows row = some rows') (hred : Red w rows) (hr : row < 2 ^ (w + 1)) : Fine w rows' := by
  have h1 := (addAll_some [row] rows rows' hred (by simpa using hr) (by simp [addAll, h])).1
  exact h1.ok
theorem c107y (w : Nat) (hw : w ≤ 16) (e lo : Nat) (rows rows' : List Nat) (v : AV) (σ : St) (hE : ES σ e lo w rows v) (hf : Fine w rows) (hl : rows.length ≤ 100000) (mask right : Nat) (hm : mask < 2 ^ w) (hr : right ≤ 1) (ha : add w rows (eqn w mask right) = some rows') :
    ∃ σ' v', callI TT 107 [.ptr e 0, .int .i64 mask, .int .i64 right] σ = some (.bool true, σ') ∧ ES σ' e lo w rows' v' ∧ σ.n ≤ σ'.n ∧ ∀ c, c < lo → c ≠ e → σ'.get c = σ.get c := by
  have hq := eqn_lt hm hr
  have hred := c116 w hw σ e lo rows v hE hf hl (eqn w mask right) hq
  have hrl := reduced_lt w rows (eqn w mask right) hf hq
  have hv := hE.v
  have hcw := hE.w
  have hn := hE.len
  have hw16 := pw_16 hw
  have hm62 : mask < 65536 := by show mask < 65536; have : 2 ^ w ≤ 65536 := hw16; omega
  have hsl : right * 2 ^ w ≤ 1 * 65536 := Nat.mul_le_mul hr hw16
  have s1 := sh_l (a := right) (b := w) (by omega) (by omega)
  have s2 := n_or (a := mask) (b := shlN right w) (by omega) (by show right * 2 ^ w ≤ _; omega)
  have s3 : orN mask (shlN right w) = eqn w mask right := rfl
  rw [s3] at s2
  have hL := c117 w (reduced w rows (eqn w mask right)) hw (lt_w hw hrl) σ e _ v hE.2.2.1 rfl
  rw [add_eq] at ha
  obtain ⟨R, hR⟩ : ∃ R, R = reduced w rows (eqn w mask right) := ⟨_, rfl⟩
  rw [← hR] at hred hL hrl ha
  rw [cI_0 fn107 rfl md107]
  have hw0 : ¬ ((w : Int) < 0) := by omega
  by_cases h1 : lead w R = w
  · rw [if_pos h1] at ha
    by_cases h2 : R = 0
    · rw [if_pos h2] at ha
      cases ha
      refine ⟨σ, v, ?_, hE, Nat.le_refl _, fun _ _ _ => rfl⟩
      rw [show ldI w R = -1 by simp [ldI, h1]] at hL
      subst h2
      simp only [show ((0 : Nat) : Int) = 0 from rfl] at hred hL
      rw [fi107]
      simp [xI_seq, xI_region, xI_ret, regA, regOps, runOps, opStep, wantedA, opA, evo, evos, calleeA, lk, nif_eq, putE, paramsE, valS, val2, keepE, restrict, finA, resA, binA, binInt, ofConst, ofConst1, loadA, TK.isAgg, asVar, unA, builtinA, lenOpA, lenA, ileb_cast, ileb_eq, ieqb_dec, indexAddrA, inB_dec, evPairs, storeA, AV.cellsOf, pairsOf, xI_nil, binBool, gcE, evOpt, xI_block, xI_loopH, xI_condM, xI_exitM, xI_skip, xI_blk, exitA, ty2, ty3, ty33, ty127, eK107_0_0, fieldAddrA, ty2, ty3, ty33, ty127, hcw, hv, s1, s2, hred, hL, hw0]
    · rw [if_neg h2] at ha; cases ha
  · rw [if_neg h1] at ha
    cases ha
    have hlw : lead w R < w := Nat.lt_of_le_of_ne (lead_le w R) h1
    rw [show ldI w R = ((lead w R : Nat) : Int) by simp [ldI, h1]] at hL
    have hl0 : ¬ (((lead w R : Nat) : Int) < 0) := by omega
    obtain ⟨σ', v', g1, g2, g3, g4⟩ := l107 w hw e lo rows v hf R hrl hlw rows.length rfl hl rows [] σ rfl (by simpa using hE)
    refine ⟨σ', v', ?_, g2, g3, g4⟩
    simp only [List.length_nil, Int.natCast_zero, show ((0 : Nat) : Int) = 0 from rfl] at g1
    rw [← g1, fi107]
    obtain ⟨_, _, _, hE4⟩ := hE
    rcases hE4 with ⟨rfl, rfl⟩ | ⟨b, hb1, hb2, rfl, hrow⟩
    · simp [xI_seq, xI_region, xI_ret, regA, regOps, runOps, opStep, wantedA, opA, evo, evos, calleeA, lk, nif_eq, putE, paramsE, valS, val2, keepE, restrict, finA, resA, binA, binInt, ofConst, ofConst1, loadA, TK.isAgg, asVar, unA, builtinA, lenOpA, lenA, ileb_cast, ileb_eq, ieqb_dec, indexAddrA, inB_dec, evPairs, storeA, AV.cellsOf, pairsOf, xI_nil, binBool, gcE, evOpt, xI_block, xI_loopH, xI_condM, xI_exitM, xI_skip, xI_blk, exitA, ty2, ty3, ty33, ty127, eK107_0_0, fieldAddrA, ty2, ty3, ty33, ty127, hcw, hv, s1, s2, hred, hL, hw0, hl0]
      rfl
    · simp [xI_seq, xI_region, xI_ret, regA, regOps, runOps, opStep, wantedA, opA, evo, evos, calleeA, lk, nif_eq, putE, paramsE, valS, val2, keepE, restrict, finA, resA, binA, binInt, ofConst, ofConst1, loadA, TK.isAgg, asVar, unA, builtinA, lenOpA, lenA, ileb_cast, ileb_eq, ieqb_dec, indexAddrA, inB_dec, evPairs, storeA, AV.cellsOf, pairsOf, xI_nil, binBool, gcE, evOpt, xI_block, xI_loopH, xI_condM, xI_exitM, xI_skip, xI_blk, exitA, ty2, ty3, ty33, ty127, eK107_0_0, fieldAddrA, ty2, ty3, ty33, ty127, hcw, hv, s1, s2, hred, hL, hw0, hl0]
      rfl
theorem c107n (w : Nat) (hw : w ≤ 16) (e lo : Nat) (rows : List Nat) (v : AV) (σ : St) (hE : ES σ e lo w rows v) (hf : Fine w rows) (hl : rows.length ≤ 100000) (mask right : Nat) (hm : mask < 2 ^ w) (hr : right ≤ 1) (ha : add w rows (eqn w mask right) = none) :
    callI TT 107 [.ptr e 0, .int .i64 mask, .int .i64 right] σ = some (.bool false, σ) := by
  have hq := eqn_lt hm hr
  have hred := c116 w hw σ e lo rows v hE hf hl (eqn w mask right) hq
  have hrl := reduced_lt w rows (eqn w mask right) hf hq
  have hv := hE.v
  have hcw := hE.w
  have hw16 := pw_16 hw
  have hm62 : mask < 65536 := by show mask < 65536; have : 2 ^ w ≤ 65536 := hw16; omega
  have hsl : right * 2 ^ w ≤ 1 * 65536 := Nat.mul_le_mul hr hw16
  have s1 := sh_l (a := right) (b := w) (by omega) (by omega)
  have s2 := n_or (a := mask) (b := shlN right w) (by omega) (by show right * 2 ^ w ≤ _; omega)
  have s3 : orN mask (shlN right w) = eqn w mask right := rfl
  rw [s3] at s2
  have hL := c117 w (reduced w rows (eqn w mask right)) hw (lt_w hw hrl) σ e _ v hE.2.2.1 rfl
  rw [add_eq] at ha
  obtain ⟨R, hR⟩ : ∃ R, R = reduced w rows (eqn w mask right) := ⟨_, rfl⟩
  rw [← hR] at hred hL hrl ha
  rw [cI_0 fn107 rfl md107]
  have hw0 : ¬ ((w : Int) < 0) := by omega
  by_cases h1 : lead w R = w
  · rw [if_pos h1] at ha
    by_cases h2 : R = 0
    · rw [if_pos h2] at ha; cases ha
    · rw [show ldI w R = -1 by simp [ldI, h1]] at hL
      have h2' : ¬ ((R : Int) = 0) := by omega
      rw [fi107]
      simp [xI_seq, xI_region, xI_ret, regA, regOps, runOps, opStep, wantedA, opA, evo, evos, calleeA, lk, nif_eq, putE, paramsE, valS, val2, keepE, restrict, finA, resA, binA, binInt, ofConst, ofConst1, loadA, TK.isAgg, asVar, unA, builtinA, lenOpA, lenA, ileb_cast, ileb_eq, ieqb_dec, indexAddrA, inB_dec, evPairs, storeA, AV.cellsOf, pairsOf, xI_nil, binBool, gcE, evOpt, xI_block, xI_loopH, xI_condM, xI_exitM, xI_skip, xI_blk, exitA, ty2, ty3, ty33, ty127, eK107_0_0, fieldAddrA, ty2, ty3, ty33, ty127, hcw, hv, s1, s2, hred, hL, hw0, h2, h2']
  · rw [if_neg h1] at ha; cases ha

noncomputable def b111 : Code := Try.f111.body.getD .skip
noncomputable def B111_0 : Code := (bodyC (bodyC (sndC (fstC (sndC (sndC b111))))))
noncomputable def K111_0 : List It := .lp B111_0 :: .blk 0 :: .code (sndC (sndC (sndC b111))) :: []
theorem xl111_0 {fi : FI} {env : Env} {σ : St} : exI TT fi K111_0 env σ = exI TT fi (.code B111_0 :: K111_0) env σ := by unfold K111_0; exact xI_lp
noncomputable def R111_0_0 : List It := .code (sndC (sndC (sndC b111))) :: []
theorem eK111_0_0 : exitA 0 K111_0 = some R111_0_0 := rfl
theorem least_lt (w : Nat) : ∀ (rows : List Nat) (out : Nat), Fine w rows → out < 2 ^ w → rows.foldl (fun out r => out ||| r / 2 ^ w * 2 ^ lead w r) out < 2 ^ w
  | [], _, _, h => h
  | r :: rows, out, hf, h => by
    rw [List.foldl_cons]
    have h1 := hf r (by simp)
    have h2 : r / 2 ^ w ≤ 1 := by
      have : r / 2 ^ w < 2 := by rw [Nat.div_lt_iff_lt_mul (Nat.pow_pos (by decide))]; have := h1.1; rw [Nat.pow_succ] at this; omega
      omega
    have h3 : r / 2 ^ w * 2 ^ lead w r ≤ 1 * 2 ^ lead w r := Nat.mul_le_mul_right _ h2
    have h4 : 2 ^ lead w r < 2 ^ w := Nat.pow_lt_pow_right (by decide) h1.2
    exact least_lt w rows _ (fun r hr => hf r (by simp [hr])) (Nat.or_lt_two_pow h (by omega))
set_option maxHeartbeats 1000000 in
theorem l111 (w : Nat) (hw : w ≤ 16) (σ : St) (e lo : Nat) (rows : List Nat) (v : AV) (hE : ES σ e lo w rows v) (hf : Fine w rows) (len : Nat) (hlen : len = rows.length) (hl : len ≤ 100000) : ∀ (suf pre : List Nat) (out : Nat), rows = pre ++ suf → out < 2 ^ w →
    exI TT (FI.of Try.f111 (TT.an 111)) K111_0 [(0, .ptr e 0), (3, .int .i64 out), (9, v), (10, .int .i64 len), (11, .int .i64 pre.length)] σ = some (.int .i64 (suf.foldl (fun out r => out ||| r / 2 ^ w * 2 ^ lead w r) out : Nat), σ) := by
  intro suf
  induction suf with
  | nil =>
    intro pre out hp ho
    have hll : len = pre.length := by rw [hlen, hp]; simp
    subst hll
    simp only [List.foldl_nil]
    rw [fi111]
    rw [xl111_0]
    simp only [B111_0, b111, Try.f111, Option.getD, fstC, sndC, bodyC, thnC, elsC]
    simp [xI_seq, xI_region, xI_ret, regA, regOps, runOps, opStep, wantedA, opA, evo, evos, calleeA, lk, nif_eq, putE, paramsE, valS, val2, keepE, restrict, finA, resA, binA, binInt, ofConst, ofConst1, loadA, TK.isAgg, asVar, unA, builtinA, lenOpA, lenA, ileb_cast, ileb_eq, ieqb_dec, indexAddrA, inB_dec, evPairs, storeA, AV.cellsOf, pairsOf, xI_nil, binBool, gcE, evOpt, xI_block, xI_loopH, xI_condM, xI_exitM, xI_skip, xI_blk, exitA, ty2, ty3, ty33, ty127, eK111_0_0]
    simp only [R111_0_0, b111, Try.f111, Option.getD, fstC, sndC, bodyC, thnC, elsC]
    simp [xI_seq, xI_region, xI_ret, regA, regOps, runOps, opStep, wantedA, opA, evo, evos, calleeA, lk, nif_eq, putE, paramsE, valS, val2, keepE, restrict, finA, resA, binA, binInt, ofConst, ofConst1, loadA, TK.isAgg, asVar, unA, builtinA, lenOpA, lenA, ileb_cast, ileb_eq, ieqb_dec, indexAddrA, inB_dec, evPairs, storeA, AV.cellsOf, pairsOf, xI_nil, binBool, gcE, evOpt, xI_block, xI_loopH, xI_condM, xI_exitM, xI_skip, xI_blk, exitA, ty2, ty3, ty33, ty127, eK111_0_0]
  | cons r suf ih =>
    intro pre out hp ho
    have hll : len = pre.length + (suf.length + 1) := by rw [hlen, hp]; simp
    have hr := hf r (by simp [hp])
    have hg : (nints rows)[pre.length]? = some (r : Int) := nints_get (by simp [hp])
    have hlt : ¬ len ≤ pre.length := by omega
    have hlt2 : pre.length < len := by omega
    have hlt3 : pre.length < rows.length := by omega
    have hw1 := wrapS (n := pre.length) (by omega)
    have hcw := hE.w
    have hw16 : 2 ^ w ≤ 65536 := pw_16 hw
    have hls := least_lt w [r] out (fun x hx => by rw [List.mem_singleton.1 hx]; exact hr) ho
    simp only [List.foldl_cons, List.foldl_nil] at hls
    obtain ⟨e1, e2, e3, e4⟩ := hE
    have hL := c117 w r hw (lt_w hw hr.1) σ e _ v e3 rfl
    rw [show ldI w r = ((lead w r : Nat) : Int) by unfold ldI; rw [if_neg (by omega)]] at hL
    obtain ⟨b, hb1, hb2, rfl, hrow⟩ : ∃ b, lo ≤ b ∧ b ≠ e ∧ v = .sl b 0 rows.length rows.length ∧ Row σ b (nints rows) := by
      rcases e4 with ⟨_, h⟩ | h
      · rw [h] at hp; simp at hp
      · exact h
    have hrd := hrow.read hg
    have s1 := sh_r (a := r) (b := w) (by omega)
    have h2 : shrN r w ≤ 1 := by
      have : r / 2 ^ w < 2 := by rw [Nat.div_lt_iff_lt_mul (Nat.pow_pos (by decide))]; have := hr.1; rw [Nat.pow_succ] at this; omega
      show r / 2 ^ w ≤ 1; omega
    have h3 : shrN r w * 2 ^ lead w r ≤ 1 * 65536 := Nat.mul_le_mul h2 (pw_16 (by omega))
    have s2 := sh_l (a := shrN r w) (b := lead w r) (by omega) (by omega)
    have s3 := n_or (a := out) (b := shlN (shrN r w) (lead w r)) (by omega) (by show shrN r w * 2 ^ lead w r ≤ _; omega)
    have s4 : ¬ ((lead w r : Nat) : Int) < 0 := by omega
    have s5 : ¬ ((w : Int) < 0) := by omega
    have h1 := ih (pre ++ [r]) (orN out (shlN (shrN r w) (lead w r))) (by simp [hp]) hls
    rw [List.foldl_cons, show out ||| r / 2 ^ w * 2 ^ lead w r = orN out (shlN (shrN r w) (lead w r)) from rfl]
    simp only [List.length_append, List.length_singleton] at h1
    rw [fi111] at h1 ⊢
    rw [xl111_0]
    simp only [B111_0, b111, Try.f111, Option.getD, fstC, sndC, bodyC, thnC, elsC]
    simp [xI_seq, xI_region, xI_ret, regA, regOps, runOps, opStep, wantedA, opA, evo, evos, calleeA, lk, nif_eq, putE, paramsE, valS, val2, keepE, restrict, finA, resA, binA, binInt, ofConst, ofConst1, loadA, TK.isAgg, asVar, unA, builtinA, lenOpA, lenA, ileb_cast, ileb_eq, ieqb_dec, indexAddrA, inB_dec, evPairs, storeA, AV.cellsOf, pairsOf, xI_nil, binBool, gcE, evOpt, xI_block, xI_loopH, xI_condM, xI_exitM, xI_skip, xI_blk, exitA, ty2, ty3, ty33, ty127, eK111_0_0, runTr, pairsOk, pairOk, lstAt, lastOf, sameVal, AV.eqv, eqvs, eqvs_ints, regOps, blt_dec, cond_true, cond_false, fieldAddrA, ty2, ty3, ty33, ty127, hlt, hlt2, hlt3, hw1, hcw, hL, hrd, s1, s2, s3, s4, s5]
    simpa using h1
theorem c111 (w : Nat) (hw : w ≤ 16) (σ : St) (e lo : Nat) (rows : List Nat) (v : AV) (hE : ES σ e lo w rows v) (hf : Fine w rows) (hl : rows.length ≤ 100000) :
    callI TT 111 [.ptr e 0] σ = some (.int .i64 (least w rows : Nat), σ) := by
  have h := l111 w hw σ e lo rows v hE hf rows.length rfl hl rows [] 0 rfl (Nat.pow_pos (by decide))
  have hv := hE.v
  simp only [List.length_nil, Int.natCast_zero, show ((0 : Nat) : Int) = 0 from rfl] at h
  rw [cI_0 fn111 rfl md111, show least w rows = rows.foldl (fun out r => out ||| r / 2 ^ w * 2 ^ lead w r) 0 from rfl, ← h, fi111]
  obtain ⟨_, _, _, hE4⟩ := hE
  rcases hE4 with ⟨rfl, rfl⟩ | ⟨b, hb1, hb2, rfl, hrow⟩
  · simp [xI_seq, xI_region, xI_ret, regA, regOps, runOps, opStep, wantedA, opA, evo, evos, calleeA, lk, nif_eq, putE, paramsE, valS, val2, keepE, restrict, finA, resA, binA, binInt, ofConst, ofConst1, loadA, TK.isAgg, asVar, unA, builtinA, lenOpA, lenA, ileb_cast, ileb_eq, ieqb_dec, indexAddrA, inB_dec, evPairs, storeA, AV.cellsOf, pairsOf, xI_nil, binBool, gcE, evOpt, xI_block, xI_loopH, xI_condM, xI_exitM, xI_skip, xI_blk, exitA, ty2, ty3, ty33, ty127, eK111_0_0, fieldAddrA, ty2, ty3, ty33, ty127, hv]
    rfl
  · simp [xI_seq, xI_region, xI_ret, regA, regOps, runOps, opStep, wantedA, opA, evo, evos, calleeA, lk, nif_eq, putE, paramsE, valS, val2, keepE, restrict, finA, resA, binA, binInt, ofConst, ofConst1, loadA, TK.isAgg, asVar, unA, builtinA, lenOpA, lenA, ileb_cast, ileb_eq, ieqb_dec, indexAddrA, inB_dec, evPairs, storeA, AV.cellsOf, pairsOf, xI_nil, binBool, gcE, evOpt, xI_block, xI_loopH, xI_condM, xI_exitM, xI_skip, xI_blk, exitA, ty2, ty3, ty33, ty127, eK111_0_0, fieldAddrA, ty2, ty3, ty33, ty127, hv]
    rfl

end Go.Proofs.Ytonnbgjbohbibaa
