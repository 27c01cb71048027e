/- Contracts: dyadic weights. Nothing is claimed here; no condition. -/
import Derived.Test.YthkdbkjkccogfaaDoorGi
import Derived.Test.YthkdbkjkccogfaaDoorEo
namespace Go.Proofs.YthkdbkjkccogfaaDoor
open Go Go.Abs
set_option linter.unusedSimpArgs false
set_option linter.unusedVariables false
open Go.Wd
def FnF (T : Tab) (f : FuncId) (args' : List AV) (v : AV) : Prop := ∀ (σ : St) (args : List AV), mapO (frzV σ frzDepth) args = some args' → args.flatMap (rowsV σ frzDepth) = [] → callI T f args σ = some (v, σ)
theorem FnF.mk {T : Tab} {f : FuncId} {F : Func} {c : Code} {args' : List AV} {v : AV} (hF : T.fn f = some F) (hB : F.body = some c) (hm : (T.an f).mode = 1)
    (hx : ∃ σ1 v0, exI T (FI.of F (T.an f)) [.code c] (paramsE 0 args') ⟨[], 0⟩ = some (v0, σ1) ∧ frzV σ1 frzDepth v0 = some v) : FnF T f args' v := by
  intro σ args ha hr
  obtain ⟨σ1, v0, hx, hv⟩ := hx
  refine cI_1 hF hB hm ha hx ?_
  unfold frzR
  rw [hv, hr]
  simp only [St.dels]
  split <;> rfl

theorem dp1 {α : Type} {L : List α} {i : Nat} {x : α} {r : List α} (h : L.drop i = x :: r) : i < L.length ∧ L[i]? = some x ∧ L.drop (i + 1) = r := by
  have hl : (L.drop i).length = r.length + 1 := by rw [h]; rfl
  rw [List.length_drop] at hl
  refine ⟨by omega, ?_, ?_⟩
  · have := congrArg (fun l => l[0]?) h
    simpa using this
  · have := congrArg (List.drop 1) h
    simpa [List.drop_drop] using this
theorem nints_read {l : List Nat} {i x : Nat} {σ : St} (h : l[i]? = some x) : cellsAt σ (.lp (ints (nints l)) i) 1 = some [.int .i64 x] := lst_read (by simp only [nints, List.getElem?_map, h]; rfl)
theorem sum_drop {l : List Nat} {i x : Nat} {r : List Nat} (h : l.drop i = x :: r) : x + r.sum ≤ l.sum := by
  have h1 : (l.take i ++ l.drop i).sum = l.sum := by rw [List.take_append_drop]
  rw [List.sum_append, h, List.sum_cons] at h1
  omega
theorem mem_sum {l : List Nat} {x : Nat} (h : x ∈ l) : x ≤ l.sum := by
  induction l with
  | nil => cases h
  | cons y r ih =>
    rw [List.sum_cons]
    rcases List.mem_cons.1 h with rfl | h
    · omega
    · have := ih h; omega

theorem dg_tab {K : Nat} (h : K ≤ 6) : FnV TT 84 [.int .i64 (pw K : Nat)] (.int .i64 (K : Int)) := by
  have hK : K = 0 ∨ K = 1 ∨ K = 2 ∨ K = 3 ∨ K = 4 ∨ K = 5 ∨ K = 6 := by omega
  rcases hK with rfl | rfl | rfl | rfl | rfl | rfl | rfl <;> exact FnV.mk (c := Tryd.f84.body.getD .skip) fn84 rfl md84 (exI_of_exec (n := 2000) (by kernel_rfl)) (fun _ => rfl) rfl

noncomputable def b107 : Code := Tryd.f107.body.getD .skip
noncomputable def B107_0 : Code := (bodyC (bodyC (sndC (fstC (sndC (sndC b107))))))
noncomputable def K107_0 : List It := .lp B107_0 :: .blk 0 :: .code (sndC (sndC (sndC b107))) :: []
theorem xl107_0 {fi : FI} {env : Env} {σ : St} : exI TT fi K107_0 env σ = exI TT fi (.code B107_0 :: K107_0) env σ := by unfold K107_0; exact xI_lp
noncomputable def R107_0_0 : List It := .code (sndC (sndC (sndC b107))) :: []
theorem eK107_0_0 : exitA 0 K107_0 = some R107_0_0 := rfl
theorem l107 (ws : List Nat) (hl : ws.length ≤ 1000) (hs : ws.sum ≤ 1000000) (σ : St) : ∀ (suf : List Nat) (i s : Nat), ws.drop i = suf → i ≤ ws.length → s + suf.sum = ws.sum →
    exI TT (FI.of Tryd.f107 (TT.an 107)) K107_0 [(3, .int .i64 s), (6, .lst ws.length (ints (nints ws))), (7, .int .i64 ws.length), (8, .int .i64 i)] σ = some (.int .i64 (ws.sum : Nat), σ) := by
  intro suf
  induction suf with
  | nil =>
    intro i s hd hi he
    have : (ws.drop i).length = 0 := by rw [hd]; rfl
    rw [List.length_drop] at this
    obtain rfl : i = ws.length := by omega
    obtain rfl : s = ws.sum := by simpa using he
    generalize ws.sum = q at *
    generalize ws.length = n at *
    rw [fi107]
    rw [xl107_0]
    simp only [B107_0, b107, Tryd.f107, Option.getD, fstC, sndC, bodyC, thnC, elsC]
    simp [xI_seq, xI_region, xI_ret, regA, regOps, runOps, opStep, wantedA, opA, evo, evos, calleeA, lk, nif_eq, putE, paramsE, valS, val2, keepE, restrict, finA, resA, binA, binInt, ofConst, ofConst1, loadA, TK.isAgg, asVar, unA, builtinA, lenOpA, lenA, ileb_cast, ileb_eq, ieqb_dec, indexAddrA, inB_dec, evPairs, storeA, AV.cellsOf, pairsOf, xI_nil, binBool, gcE, evOpt, tagZ, xI_block, xI_loopH, xI_condM, xI_exitM, xI_skip, xI_blk, exitA, ty2, ty3, ty24, eK107_0_0]
    simp only [R107_0_0, b107, Tryd.f107, Option.getD, fstC, sndC, bodyC, thnC, elsC]
    simp [xI_seq, xI_region, xI_ret, regA, regOps, runOps, opStep, wantedA, opA, evo, evos, calleeA, lk, nif_eq, putE, paramsE, valS, val2, keepE, restrict, finA, resA, binA, binInt, ofConst, ofConst1, loadA, TK.isAgg, asVar, unA, builtinA, lenOpA, lenA, ileb_cast, ileb_eq, ieqb_dec, indexAddrA, inB_dec, evPairs, storeA, AV.cellsOf, pairsOf, xI_nil, binBool, gcE, evOpt, tagZ, xI_block, xI_loopH, xI_condM, xI_exitM, xI_skip, xI_blk, exitA, ty2, ty3, ty24, eK107_0_0]
  | cons x suf ih =>
    intro i s hd hi he
    obtain ⟨d1, d2, d3⟩ := dp1 hd
    rw [List.sum_cons] at he
    have h1 := ih (i + 1) (s + x) d3 d1 (by omega)
    have rd : ∀ σ : St, cellsAt σ (.lp (ints (nints ws)) i) 1 = some [.int .i64 x] := fun σ => nints_read d2
    have hlt : (i : Int) < (ws.length : Int) := by omega
    have hnl : ¬ ws.length ≤ i := by omega
    have hw : wrapA .i64 ((i : Int) + 1) = (i : Int) + 1 := wrapA_id (by omega) (by omega)
    have hw2 : wrapA .i64 ((s : Int) + (x : Int)) = ((s + x : Nat) : Int) := by rw [wrapA_id (by omega) (by omega)]; omega
    rw [← h1, show ((i + 1 : Nat) : Int) = (i : Int) + 1 by omega]
    clear h1 ih hd d3
    generalize s + x = s2 at *
    generalize ws.length = n at *
    rw [fi107]
    conv => lhs; rw [xl107_0]
    simp only [B107_0, b107, Tryd.f107, Option.getD, fstC, sndC, bodyC, thnC, elsC]
    simp [xI_seq, xI_region, xI_ret, regA, regOps, runOps, opStep, wantedA, opA, evo, evos, calleeA, lk, nif_eq, putE, paramsE, valS, val2, keepE, restrict, finA, resA, binA, binInt, ofConst, ofConst1, loadA, TK.isAgg, asVar, unA, builtinA, lenOpA, lenA, ileb_cast, ileb_eq, ieqb_dec, indexAddrA, inB_dec, evPairs, storeA, AV.cellsOf, pairsOf, xI_nil, binBool, gcE, evOpt, tagZ, xI_block, xI_loopH, xI_condM, xI_exitM, xI_skip, xI_blk, exitA, ty2, ty3, ty24, eK107_0_0, hlt, hnl, d1, hw, hw2, rd]
theorem v107 (ws : List Nat) (hl : ws.length ≤ 1000) (hs : ws.sum ≤ 1000000) : FnV TT 107 [.lst ws.length (ints (nints ws))] (.int .i64 (ws.sum : Nat)) := by
  have h := l107 ws hl hs ⟨[], 0⟩ ws 0 0 rfl (Nat.zero_le _) (by omega)
  refine FnV.mk fn107 rfl md107 ⟨⟨[], 0⟩, ?_⟩ (fun _ => rfl) rfl
  rw [← h, fi107]
  simp [xI_seq, xI_region, xI_ret, regA, regOps, runOps, opStep, wantedA, opA, evo, evos, calleeA, lk, nif_eq, putE, paramsE, valS, val2, keepE, restrict, finA, resA, binA, binInt, ofConst, ofConst1, loadA, TK.isAgg, asVar, unA, builtinA, lenOpA, lenA, ileb_cast, ileb_eq, ieqb_dec, indexAddrA, inB_dec, evPairs, storeA, AV.cellsOf, pairsOf, xI_nil, binBool, gcE, evOpt, tagZ, xI_block, xI_loopH, xI_condM, xI_exitM, xI_skip, xI_blk, exitA, ty2, ty3, ty24, eK107_0_0]
  rfl
/-- Weights whose sum is a power of two. -/
def Dya (K : Nat) (ws : List Nat) : Prop := ws.sum = pw K ∧ K ≤ 6 ∧ 1 ≤ ws.length ∧ ws.length ≤ 5
theorem pw_6 {K : Nat} (h : K ≤ 6) : pw K ≤ 64 := Nat.pow_le_pow_right (by decide) h

theorem v106 {K : Nat} {ws : List Nat} (h : Dya K ws) : FnV TT 106 [.lst ws.length (ints (nints ws))] (.bool true) := by
  obtain ⟨h1, h2, h3, h4⟩ := h
  have hp := pw_6 h2
  have hp1 := pw_pos K
  have c1 := v93 (nints ws) ws.length ⟨[], 0⟩ [.lst ws.length (ints (nints ws))] rfl
  have c2 := c69 ws.length 1 16 ⟨[], 0⟩
  rw [show inR (ws.length : Int) 1 16 = true from inR_iff.2 (by omega)] at c2
  have c3 := v94 (nints ws) ws.length (nints_length _).symm (by omega) 0 1000000 ⟨[], 0⟩ [.lst ws.length (ints (nints ws)), .int .i64 0, .int .i64 1000000] rfl
  rw [show allR (nints ws) 0 1000000 = true from List.all_eq_true.2 fun x hx => by
    obtain ⟨y, hy, rfl⟩ := List.mem_map.1 hx
    have := mem_sum hy
    exact inR_iff.2 (by omega)] at c3
  have c4 := v107 ws (by omega) (by omega) ⟨[], 0⟩ [.lst ws.length (ints (nints ws))] rfl
  have c5 := c69 (ws.sum : Nat) 1 1000000 ⟨[], 0⟩
  rw [show inR ((ws.sum : Nat) : Int) 1 1000000 = true from inR_iff.2 (by omega)] at c5
  refine FnV.mk fn106 rfl md106 ⟨⟨[], 0⟩, ?_⟩ (fun _ => rfl) rfl
  generalize ws.sum = q at *
  generalize ws.length = n at *
  rw [fi106]
  simp [xI_seq, xI_region, xI_ret, regA, regOps, runOps, opStep, wantedA, opA, evo, evos, calleeA, lk, nif_eq, putE, paramsE, valS, val2, keepE, restrict, finA, resA, binA, binInt, ofConst, ofConst1, loadA, TK.isAgg, asVar, unA, builtinA, lenOpA, lenA, ileb_cast, ileb_eq, ieqb_dec, indexAddrA, inB_dec, evPairs, storeA, AV.cellsOf, pairsOf, xI_nil, binBool, gcE, evOpt, tagZ, xI_block, xI_loopH, xI_condM, xI_exitM, xI_skip, xI_blk, exitA, c1, c2, c3, c4, c5]

theorem v55 {K : Nat} {ws : List Nat} (h : Dya K ws) : FnV TT 55 [.lst ws.length (ints (nints ws))] (.bool true) := by
  have c0 := v106 h ⟨[], 0⟩ [.lst ws.length (ints (nints ws))] rfl
  obtain ⟨h1, h2, h3, h4⟩ := h
  have hp := pw_6 h2
  have hp1 := pw_pos K
  have c4 := v107 ws (by omega) (by omega) ⟨[], 0⟩ [.lst ws.length (ints (nints ws))] rfl
  rw [h1] at c4
  have c3 : wrapA .i64 (((pw K : Nat) : Int) - 1) = ((pw K - 1 : Nat) : Int) := by rw [wrapA_id (by omega) (by omega)]; omega
  have c5 : bitsA .and .i64 ((pw K : Nat) : Int) ((pw K - 1 : Nat) : Int) = some (.int .i64 0) := by
    rw [n_and (by omega) (by omega)]
    have : andN (pw K) (pw K - 1) = 0 := by
      have : K = 0 ∨ K = 1 ∨ K = 2 ∨ K = 3 ∨ K = 4 ∨ K = 5 ∨ K = 6 := by omega
      rcases this with rfl | rfl | rfl | rfl | rfl | rfl | rfl <;> rfl
    rw [this]; rfl
  have hle : ((pw K : Nat) : Int) ≤ 4096 := by omega
  have hle2 : pw K ≤ 4096 := by omega
  refine FnV.mk fn55 rfl md55 ⟨⟨[], 0⟩, ?_⟩ (fun _ => rfl) rfl
  generalize pw K - 1 = q at *
  generalize pw K = P at *
  generalize ws.length = n at *
  rw [fi55]
  simp [xI_seq, xI_region, xI_ret, regA, regOps, runOps, opStep, wantedA, opA, evo, evos, calleeA, lk, nif_eq, putE, paramsE, valS, val2, keepE, restrict, finA, resA, binA, binInt, ofConst, ofConst1, loadA, TK.isAgg, asVar, unA, builtinA, lenOpA, lenA, ileb_cast, ileb_eq, ieqb_dec, indexAddrA, inB_dec, evPairs, storeA, AV.cellsOf, pairsOf, xI_nil, binBool, gcE, evOpt, tagZ, xI_block, xI_loopH, xI_condM, xI_exitM, xI_skip, xI_blk, exitA, ty2, ty4, c0, c3, c4, c5, hle, hle2]

noncomputable def b52 : Code := Tryd.f52.body.getD .skip
noncomputable def B52_0 : Code := (bodyC (bodyC (sndC (fstC (sndC (sndC (sndC (sndC (sndC b52)))))))))
noncomputable def K52_0 : List It := .lp B52_0 :: .blk 0 :: .code (sndC (sndC (sndC (sndC (sndC (sndC b52)))))) :: []
theorem xl52_0 {fi : FI} {env : Env} {σ : St} : exI TT fi K52_0 env σ = exI TT fi (.code B52_0 :: K52_0) env σ := by unfold K52_0; exact xI_lp
noncomputable def R52_0_0 : List It := .code (sndC (sndC (sndC (sndC (sndC (sndC b52)))))) :: []
theorem eK52_0_0 : exitA 0 K52_0 = some R52_0_0 := rfl
theorem l52 (c : List Nat) (hc : ∀ x ∈ c, x < 256) (hcl : c.length ≤ 1000) (s : Nat) (P : Nat) (hP : P ≤ 64) : ∀ (m left k mm : Nat) (σ : St) (b : Nat) (l : List Nat), l.length + m ≤ 5 → left + l.sum = P → k + 4 * m ≤ 900000 → SRC σ s c k mm → s ≠ b → Row σ b (nints l) →
    ∃ (σ' : St) (b' : Nat) (l' : List Nat), exI TT (FI.of Tryd.f52 (TT.an 52)) K52_0 [(3, .ptr s 0), (5, .int .i64 left), (6, .sl b 0 l.length l.length), (7, .int .i64 m)] σ = some (.sl b' 0 l'.length l'.length, σ') ∧ Row σ' b' (nints l') ∧ l'.length = l.length + m + 1 ∧ l'.sum = P := by
  intro m
  induction m with
  | zero =>
    intro left k mm σ b l hl hs hk hS hsb hr
    obtain ⟨σ1, ha, hr1, hn1, _⟩ := nints_append_row (x := left) ty24 ty2 hr (n := l.length) rfl (by omega)
    refine ⟨σ1, σ.n + 1, l ++ [left], ?_, hr1, by simp, by simp; omega⟩
    have bs1 : ∀ σ x, buildSliceA TT σ 24 1 [(0, .int .i64 x)] = some (.sl σ.n 0 1 1, σ.push ⟨[.int .i64 x], 1, false⟩) := fun σ x => build_one ty24 ty2
    rw [show (l ++ [left]).length = l.length + 1 by simp]
    generalize l.length = n at *
    rw [fi52]
    rw [xl52_0]
    simp only [B52_0, b52, Tryd.f52, Option.getD, fstC, sndC, bodyC, thnC, elsC]
    simp [xI_seq, xI_region, xI_ret, regA, regOps, runOps, opStep, wantedA, opA, evo, evos, calleeA, lk, nif_eq, putE, paramsE, valS, val2, keepE, restrict, finA, resA, binA, binInt, ofConst, ofConst1, loadA, TK.isAgg, asVar, unA, builtinA, lenOpA, lenA, ileb_cast, ileb_eq, ieqb_dec, indexAddrA, inB_dec, evPairs, storeA, AV.cellsOf, pairsOf, xI_nil, binBool, gcE, evOpt, tagZ, xI_block, xI_loopH, xI_condM, xI_exitM, xI_skip, xI_blk, exitA, ty2, ty24, ty36, eK52_0_0]
    simp only [R52_0_0, b52, Tryd.f52, Option.getD, fstC, sndC, bodyC, thnC, elsC]
    simp [xI_seq, xI_region, xI_ret, regA, regOps, runOps, opStep, wantedA, opA, evo, evos, calleeA, lk, nif_eq, putE, paramsE, valS, val2, keepE, restrict, finA, resA, binA, binInt, ofConst, ofConst1, loadA, TK.isAgg, asVar, unA, builtinA, lenOpA, lenA, ileb_cast, ileb_eq, ieqb_dec, indexAddrA, inB_dec, evPairs, storeA, AV.cellsOf, pairsOf, xI_nil, binBool, gcE, evOpt, tagZ, xI_block, xI_loopH, xI_condM, xI_exitM, xI_skip, xI_blk, exitA, ty2, ty24, ty36, eK52_0_0, bs1, ha]
  | succ m ih =>
    intro left k mm σ b l hl hs hk hS hsb hr
    obtain ⟨w, k2, m2, σ2, c2, hw, S2, hk2, n2, u2⟩ := c66 c hc hcl k mm (by omega) (left + 1) (by omega) σ s hS
    replace hw : w ≤ left := by omega
    have hrow := hr.keep (Nat.le_of_eq n2.symm) (u2 b (fun e => hsb e.symm))
    obtain ⟨σ3, ha, hr1, hn1, ho⟩ := nints_append_row (x := w) ty24 ty2 hrow (n := l.length) rfl (by omega)
    have hs2 := S2.1
    have S3 := S2.keep (σ' := σ3) (by omega) (ho s hsb hs2)
    obtain ⟨σ', b', l', h1, h2, h3, h4⟩ := ih (left - w) k2 m2 σ3 (σ2.n + 1) (l ++ [w]) (by simp; omega) (by simp; omega) (by omega) S3 (by omega) hr1
    refine ⟨σ', b', l', ?_, h2, by rw [h3]; simp; omega, h4⟩
    rw [← h1]
    clear h1 ih
    have bs1 : ∀ σ x, buildSliceA TT σ 24 1 [(0, .int .i64 x)] = some (.sl σ.n 0 1 1, σ.push ⟨[.int .i64 x], 1, false⟩) := fun σ x => build_one ty24 ty2
    have w1 : wrapA .i64 ((left : Int) + 1) = ((left + 1 : Nat) : Int) := by rw [wrapA_id (by omega) (by omega)]; omega
    have w2 : wrapA .i64 ((left : Int) - (w : Int)) = ((left - w : Nat) : Int) := by rw [wrapA_id (by omega) (by omega)]; omega
    have w3 : wrapA .i64 ((m : Int) + 1 - 1) = (m : Int) := by rw [wrapA_id (by omega) (by omega)]; omega
    have w4 : wrapA .i64 (m : Int) = (m : Int) := wrapA_id (by omega) (by omega)
    have hp : (0 : Int) < (m : Int) + 1 := by omega
    have hp2 : ¬ ((m : Int) + 1 ≤ 0) := by omega
    rw [show (l ++ [w]).length = l.length + 1 by simp, show ((m + 1 : Nat) : Int) = (m : Int) + 1 by omega]
    generalize left + 1 = left1 at *
    generalize left - w = left2 at *
    generalize l.length = n at *
    rw [fi52]
    conv => lhs; rw [xl52_0]
    simp only [B52_0, b52, Tryd.f52, Option.getD, fstC, sndC, bodyC, thnC, elsC]
    simp [xI_seq, xI_region, xI_ret, regA, regOps, runOps, opStep, wantedA, opA, evo, evos, calleeA, lk, nif_eq, putE, paramsE, valS, val2, keepE, restrict, finA, resA, binA, binInt, ofConst, ofConst1, loadA, TK.isAgg, asVar, unA, builtinA, lenOpA, lenA, ileb_cast, ileb_eq, ieqb_dec, indexAddrA, inB_dec, evPairs, storeA, AV.cellsOf, pairsOf, xI_nil, binBool, gcE, evOpt, tagZ, xI_block, xI_loopH, xI_condM, xI_exitM, xI_skip, xI_blk, exitA, ty2, ty24, ty36, eK52_0_0, c2, bs1, ha, w1, w2, w3, w4, hp, hp2]
theorem v52 (c : List Nat) (hc : ∀ x ∈ c, x < 256) (hcl : c.length ≤ 1000) : ∃ (K : Nat) (ws : List Nat), Dya K ws ∧ FnF TT 52 [.lst c.length (byts c)] (.lst ws.length (ints (nints ws))) := by
  obtain ⟨σ1, c1, S1, n1, o1⟩ := c65 c ⟨[], 0⟩
  replace n1 : σ1.n = 1 := n1
  obtain ⟨K, k2, m2, σ2, c2, hK, S2, hk2, n2, u2⟩ := c66 c hc hcl 0 0 (by decide) 7 (by decide) σ1 0 S1
  replace hK : K ≤ 6 := by omega
  have hp := pw_6 hK
  have S3 : SRC (σ2.push ⟨ints [], 1, false⟩) 0 c k2 m2 := S2.keep (by simp [n_push]) (get_push_lt (by omega))
  obtain ⟨m, k4, m4, σ4, c4, hm, S4, hk4, n4, u4⟩ := c66 c hc hcl k2 m2 (by omega) 5 (by decide) (σ2.push ⟨ints [], 1, false⟩) 0 S3
  replace hm : m ≤ 4 := by omega
  have hrow : Row σ4 σ2.n (nints []) := by
    refine ⟨false, ?_, ?_⟩
    · rw [u4 _ (by omega)]; exact get_push_same
    · rw [n4]; exact Nat.lt_succ_self _
  obtain ⟨σ', b', l', h1, h2, h3, h4⟩ := l52 c hc hcl 0 (pw K) hp m (pw K) k4 m4 σ4 σ2.n [] (by simp; omega) (by simp) (by omega) S4 (by omega) hrow
  refine ⟨K, l', ⟨h4, hK, by omega, by simp at h3; omega⟩, FnF.mk fn52 rfl md52 ⟨σ', .sl b' 0 l'.length l'.length, ?_, h2.frz (d := 4) (by rw [nints_length]) (Nat.le_refl _)⟩⟩
  have s1 := sh_1 (b := K) (by omega)
  have s2 : wrapA .u64 (K : Int) = (K : Int) := n_wrapu (by omega)
  have convU : ∀ σ, convA TT σ 2 36 (.int .i64 (K : Int)) = some (.int .u64 (K : Int), σ) := fun σ => by simp [convA, ty2, ty36, s2]
  have bs0 : ∀ σ, buildSliceA TT σ 24 0 [] = some (.sl σ.n 0 0 0, σ.push ⟨ints [], 1, false⟩) := fun σ => build_nil ty24 ty2
  simp only [show ((7 : Nat) : Int) = 7 from rfl] at c2
  simp only [show ((5 : Nat) : Int) = 5 from rfl] at c4
  simp only [List.length_nil, show ((0 : Nat) : Int) = 0 from rfl] at h1
  rw [← h1, fi52]
  clear h1
  generalize pw K = P at *
  simp [xI_seq, xI_region, xI_ret, regA, regOps, runOps, opStep, wantedA, opA, evo, evos, calleeA, lk, nif_eq, putE, paramsE, valS, val2, keepE, restrict, finA, resA, binA, binInt, ofConst, ofConst1, loadA, TK.isAgg, asVar, unA, builtinA, lenOpA, lenA, ileb_cast, ileb_eq, ieqb_dec, indexAddrA, inB_dec, evPairs, storeA, AV.cellsOf, pairsOf, xI_nil, binBool, gcE, evOpt, tagZ, xI_block, xI_loopH, xI_condM, xI_exitM, xI_skip, xI_blk, exitA, ty2, ty24, ty36, eK52_0_0, ty2, ty36, c1, c2, c4, s1, convU, bs0]
  rfl

end Go.Proofs.YthkdbkjkccogfaaDoor
