/- Contracts: machines that come in, valid ones. Nothing is claimed here; no condition. -/
import Derived.Test.YtonnbgjbohbibaaEd
namespace Go.Proofs.Ytonnbgjbohbibaa
open Go Go.Abs
set_option linter.unusedSimpArgs false
set_option linter.unusedVariables false
open Go.Wd
theorem blt_dec (a b : Nat) : Nat.blt a b = decide (a < b) := by
  rw [Bool.eq_iff_iff]; simp
theorem eqvs_ints : ∀ (l : List Int), eqvs (ints l) (ints l) = true
  | [] => rfl
  | x :: r => by simp only [ints_cons, eqvs, AV.eqv, eqvs_ints r]; simp
/-- A function that yields a value in a heap of its own; what it was given, and what it yields, is frozen. -/
def FnF (T : Tab) (f : FuncId) (args' : List AV) (v : AV) : Prop := ∀ (σ : St) (args : List AV), mapO (frzV σ frzDepth) args = some args' → args.flatMap (rowsV σ frzDepth) = [] → callI T f args σ = some (v, σ)
theorem FnF.mk {T : Tab} {f : FuncId} {F : Func} {c : Code} {args' : List AV} {v : AV} (hF : T.fn f = some F) (hB : F.body = some c) (hm : (T.an f).mode = 1)
    (hx : ∃ σ1 v0, exI T (FI.of F (T.an f)) [.code c] (paramsE 0 args') ⟨[], 0⟩ = some (v0, σ1) ∧ frzV σ1 frzDepth v0 = some v) : FnF T f args' v := by
  intro σ args ha hr
  obtain ⟨σ1, v0, hx, hv⟩ := hx
  refine cI_1 hF hB hm ha hx ?_
  unfold frzR
  rw [hv, hr]
  simp only [St.dels]
  split <;> rfl
/-- A machine's cells. -/
def lin (w : Int) (R : List Int) (o : Int) : List AV := [.int .i64 w, .lst R.length (ints R), .int .i64 o]
/-- Whether a machine is valid. -/
def vlin (w : Int) (R : List Int) (o : Int) : Bool := inR w 1 16 && decide ((R.length : Int) = w) && allR R 0 (((pw w.toNat : Nat) : Int) - 1) && inR o 0 (((pw w.toNat : Nat) : Int) - 1)
/-- Whether it is, and a number is a state of it. -/
def vst (w : Int) (R : List Int) (o s : Int) : Bool := vlin w R o && inR s 0 (((pw w.toNat : Nat) : Int) - 1)
theorem vlin_nat {w : Int} {R : List Int} {o : Int} (h : vlin w R o = true) : ∃ (A : List Nat) (k : Nat), w = (A.length : Int) ∧ R = nints A ∧ o = (k : Int) ∧ 1 ≤ A.length ∧ A.length ≤ 16 ∧ (∀ r ∈ A, r < pw A.length) ∧ k < pw A.length := by
  simp only [vlin, Bool.and_eq_true, decide_eq_true_eq] at h
  obtain ⟨⟨⟨h1, h2⟩, h3⟩, h4⟩ := h
  have h1 := inR_iff.1 h1
  have h4 := inR_iff.1 h4
  have h3 := allR_spec h3
  obtain ⟨A, rfl⟩ := of_nonneg (l := R) fun x hx => (h3 x hx).1
  rw [nints_length] at h2
  obtain rfl := h2.symm
  refine ⟨A, o.toNat, rfl, rfl, by omega, by omega, by omega, fun r hr => ?_, ?_⟩
  · have := h3 r (List.mem_map.2 ⟨r, hr, rfl⟩)
    simp only [Int.toNat_natCast] at this
    omega
  · simp only [Int.toNat_natCast] at h4
    omega
theorem vst_nat {w : Int} {R : List Int} {o s : Int} (h : vst w R o s = true) : ∃ (A : List Nat) (k t : Nat), w = (A.length : Int) ∧ R = nints A ∧ o = (k : Int) ∧ s = (t : Int) ∧ 1 ≤ A.length ∧ A.length ≤ 16 ∧ (∀ r ∈ A, r < pw A.length) ∧ k < pw A.length ∧ t < pw A.length := by
  simp only [vst, Bool.and_eq_true] at h
  obtain ⟨A, k, h1, h2, h3, h4, h5, h6, h7⟩ := vlin_nat h.1
  have := inR_iff.1 h.2
  refine ⟨A, k, s.toNat, h1, h2, h3, by omega, h4, h5, h6, h7, ?_⟩
  rw [h1, Int.toNat_natCast] at this
  omega
theorem pw_16 {k : Nat} (h : k ≤ 16) : pw k ≤ 65536 := Nat.pow_le_pow_right (by decide) h
theorem pw_pos (k : Nat) : 0 < pw k := Nat.pow_pos (by decide)
theorem pw_dec {k : Nat} (h : k ≤ 16) : wrapA .i64 (((pw k : Nat) : Int) - 1) = ((pw k : Nat) : Int) - 1 := by
  have := pw_16 h
  exact wrapA_id (by omega) (by omega)

theorem v82 (n m : Nat) (l : List Int) (hn : n ≤ 9223372036854775807) (hm : m < 1000000000000) : FnV TT 82 [.lst n (ints l), .int .i64 m] (.int .i64 (if n ≤ m then (m : Int) - n else -1)) := by
  refine FnV.mk fn82 rfl md82 ⟨⟨[], 0⟩, ?_⟩ (fun _ => rfl) rfl
  have h := wrapA_id (n := (m : Int) - n) (by omega) (by omega)
  rw [fi82]
  by_cases hl : n ≤ m
  · have h1 : ¬ ((m : Int) - n < 0) := by omega
    simp [xI_seq, xI_region, xI_ret, regA, regOps, runOps, opStep, wantedA, opA, evo, evos, calleeA, lk, nif_eq, putE, paramsE, valS, val2, keepE, restrict, finA, resA, binA, binInt, ofConst, ofConst1, loadA, TK.isAgg, asVar, unA, builtinA, lenOpA, lenA, ileb_cast, ileb_eq, ieqb_dec, indexAddrA, inB_dec, evPairs, storeA, AV.cellsOf, pairsOf, xI_nil, binBool, gcE, evOpt, xI_block, xI_loopH, xI_condM, xI_exitM, xI_skip, xI_blk, exitA, ty2, ty3, ty33, h, h1, hl]
  · have h1 : (m : Int) - n < 0 := by omega
    simp [xI_seq, xI_region, xI_ret, regA, regOps, runOps, opStep, wantedA, opA, evo, evos, calleeA, lk, nif_eq, putE, paramsE, valS, val2, keepE, restrict, finA, resA, binA, binInt, ofConst, ofConst1, loadA, TK.isAgg, asVar, unA, builtinA, lenOpA, lenA, ileb_cast, ileb_eq, ieqb_dec, indexAddrA, inB_dec, evPairs, storeA, AV.cellsOf, pairsOf, xI_nil, binBool, gcE, evOpt, xI_block, xI_loopH, xI_condM, xI_exitM, xI_skip, xI_blk, exitA, ty2, ty3, ty33, h, h1, hl]

theorem v30 (w : Int) (l : List Int) (o : Int) (m : Nat) (hn : l.length ≤ 9223372036854775807) (hm : m < 1000000000000) : FnV TT 30 [.agg (lin w l o), .int .i64 m] (.int .i64 (if l.length ≤ m then (m : Int) - l.length else -1)) := by
  refine FnV.mk fn30 rfl md30 ⟨(⟨[], 0⟩ : St).push ⟨lin w l o, 3, false⟩, ?_⟩ (fun _ => rfl) rfl
  have h := v82 l.length m l hn hm ((⟨[], 0⟩ : St).push ⟨lin w l o, 3, false⟩) [.lst l.length (ints l), .int .i64 m] rfl
  have hg : ((⟨[], 0⟩ : St).push ⟨lin w l o, 3, false⟩).get 0 = some ⟨lin w l o, 3, false⟩ := rfl
  rw [fi30]
  by_cases hl : l.length ≤ m
  · have h1 : ¬ ((m : Int) - l.length < 0) := by omega
    rw [if_pos hl] at h
    simp only [lin] at h hg ⊢
    simp [xI_seq, xI_region, xI_ret, regA, regOps, runOps, opStep, wantedA, opA, evo, evos, calleeA, lk, nif_eq, putE, paramsE, valS, val2, keepE, restrict, finA, resA, binA, binInt, ofConst, ofConst1, loadA, TK.isAgg, asVar, unA, builtinA, lenOpA, lenA, ileb_cast, ileb_eq, ieqb_dec, indexAddrA, inB_dec, evPairs, storeA, AV.cellsOf, pairsOf, xI_nil, binBool, gcE, evOpt, xI_block, xI_loopH, xI_condM, xI_exitM, xI_skip, xI_blk, exitA, ty2, ty3, ty33, ty38, h, h1, hl, cellsAt, getCells, takeN, dropN, fieldAddrA, allOne, AV.one, n_push, storeCellsA, putN, overN, ty2, ty33, ty38, ty41, hg]
  · have h1 : ¬ (0 : Int) ≤ -1 := by omega
    rw [if_neg hl] at h
    simp only [lin] at h hg ⊢
    simp [xI_seq, xI_region, xI_ret, regA, regOps, runOps, opStep, wantedA, opA, evo, evos, calleeA, lk, nif_eq, putE, paramsE, valS, val2, keepE, restrict, finA, resA, binA, binInt, ofConst, ofConst1, loadA, TK.isAgg, asVar, unA, builtinA, lenOpA, lenA, ileb_cast, ileb_eq, ieqb_dec, indexAddrA, inB_dec, evPairs, storeA, AV.cellsOf, pairsOf, xI_nil, binBool, gcE, evOpt, xI_block, xI_loopH, xI_condM, xI_exitM, xI_skip, xI_blk, exitA, ty2, ty3, ty33, ty38, h, h1, hl, cellsAt, getCells, takeN, dropN, fieldAddrA, allOne, AV.one, n_push, storeCellsA, putN, overN, ty2, ty33, ty38, ty41, hg]

theorem tol32 (w : Int) (l : List Int) (o : Int) (hn : l.length < 1000000000000) : FnF TT 32 [.agg (lin w l o)] (.agg (lin w l o)) := by
  have hc : ∀ σ : St, ∃ q : Bool, callI TT 43 [.lst l.length (ints l)] σ = some (.sl σ.n 0 l.length l.length, σ.push ⟨ints l, 1, q⟩) := fun σ => s43 l l.length rfl hn σ _ rfl
  obtain ⟨q, hc⟩ := Classical.skolem.1 hc
  have hz : getCells (ints l) 0 l.length = some (ints l) := getCells_full rfl
  refine FnF.mk fn32 rfl md32 ?_
  rw [fi32]
  simp only [lin]
  simp [xI_seq, xI_region, xI_ret, regA, regOps, runOps, opStep, wantedA, opA, evo, evos, calleeA, lk, nif_eq, putE, paramsE, valS, val2, keepE, restrict, finA, resA, binA, binInt, ofConst, ofConst1, loadA, TK.isAgg, asVar, unA, builtinA, lenOpA, lenA, ileb_cast, ileb_eq, ieqb_dec, indexAddrA, inB_dec, evPairs, storeA, AV.cellsOf, pairsOf, xI_nil, binBool, gcE, evOpt, xI_block, xI_loopH, xI_condM, xI_exitM, xI_skip, xI_blk, exitA, ty2, ty33, ty38, ty41, cellsAt, getCells, takeN, dropN, fieldAddrA, allOne, AV.one, n_push, storeCellsA, putN, overN, ty2, ty33, ty38, ty41, St.push, St.get, St.set, hget, hset, hc]
  exact ⟨_, _, ⟨rfl, rfl⟩, frzV_agg (mapO_cons rfl (mapO_cons (frzV_sl (l := l) rfl rfl (Nat.le_refl _)) (mapO_cons rfl rfl)))⟩

theorem v34 (w : Int) (l : List Int) (o : Int) (hn : l.length < 1000000000000) : FnV TT 34 [.agg (lin w l o), .agg (lin w l o)] (.bool true) := by
  have hc : ∀ σ : St, callI TT 44 [.lst l.length (ints l), .lst l.length (ints l)] σ = some (.bool true, σ) := fun σ => by
    have := v44 l l l.length l.length rfl rfl hn σ [.lst l.length (ints l), .lst l.length (ints l)] rfl
    simpa using this
  refine FnV.mk fn34 rfl md34 ⟨((⟨[], 0⟩ : St).push ⟨lin w l o, 3, false⟩).push ⟨lin w l o, 3, false⟩, ?_⟩ (fun _ => rfl) rfl
  rw [fi34]
  simp only [lin]
  simp [xI_seq, xI_region, xI_ret, regA, regOps, runOps, opStep, wantedA, opA, evo, evos, calleeA, lk, nif_eq, putE, paramsE, valS, val2, keepE, restrict, finA, resA, binA, binInt, ofConst, ofConst1, loadA, TK.isAgg, asVar, unA, builtinA, lenOpA, lenA, ileb_cast, ileb_eq, ieqb_dec, indexAddrA, inB_dec, evPairs, storeA, AV.cellsOf, pairsOf, xI_nil, binBool, gcE, evOpt, xI_block, xI_loopH, xI_condM, xI_exitM, xI_skip, xI_blk, exitA, ty2, ty4, ty33, ty41, cellsAt, getCells, takeN, dropN, fieldAddrA, allOne, AV.one, n_push, storeCellsA, putN, overN, ty2, ty33, ty38, ty41, St.push, St.get, St.set, hget, hset, hc]

theorem c127 (k : Nat) (hk : k ≤ 16) (n : Int) (σ : St) : callI TT 127 [.int .i64 k, .int .i64 n] σ = some (.bool (inR n 0 (((pw k : Nat) : Int) - 1)), σ) := by
  refine (FnV.mk (args' := [.int .i64 k, .int .i64 n]) fn127 rfl md127 ⟨⟨[], 0⟩, ?_⟩ (fun _ => rfl) rfl) σ _ rfl
  have h1 : wrapA .u64 (k : Int) = (k : Int) := n_wrapu (by omega)
  have h2 := sh_1 (b := k) (by omega)
  have h3 := pw_dec hk
  rw [fi127]
  simp [xI_seq, xI_region, xI_ret, regA, regOps, runOps, opStep, wantedA, opA, evo, evos, calleeA, lk, nif_eq, putE, paramsE, valS, val2, keepE, restrict, finA, resA, binA, binInt, ofConst, ofConst1, loadA, TK.isAgg, asVar, unA, builtinA, lenOpA, lenA, ileb_cast, ileb_eq, ieqb_dec, indexAddrA, inB_dec, evPairs, storeA, AV.cellsOf, pairsOf, xI_nil, binBool, gcE, evOpt, xI_block, xI_loopH, xI_condM, xI_exitM, xI_skip, xI_blk, exitA, ty2, ty73, h1, h2, h3, convA, c88]

noncomputable def b83 : Code := Try.f83.body.getD .skip
noncomputable def B83_0 : Code := (bodyC (bodyC (sndC (fstC (sndC (sndC b83))))))
noncomputable def K83_0 : List It := .lp B83_0 :: .blk 0 :: .code (sndC (sndC (sndC b83))) :: []
theorem xl83_0 {fi : FI} {env : Env} {σ : St} : exI TT fi K83_0 env σ = exI TT fi (.code B83_0 :: K83_0) env σ := by unfold K83_0; exact xI_lp
noncomputable def R83_0_0 : List It := .code (sndC (sndC (sndC b83))) :: []
theorem eK83_0_0 : exitA 0 K83_0 = some R83_0_0 := rfl
theorem l83 (R : List Int) (k : Nat) (hk : k ≤ 16) (hs : R.length < 1000000000000) (o : Int) (σ : St) (b : Nat) (x : Blk) (hb : σ.get b = some x) (hx : x.cells = lin k R o) : ∀ (suf pre : List Int), R = pre ++ suf →
    exI TT (FI.of Try.f83 (TT.an 83)) K83_0 [(0, .ptr b 0), (3, .int .i64 pre.length)] σ = some (.bool (allR suf 0 (((pw k : Nat) : Int) - 1)), σ) := by
  intro suf
  induction suf with
  | nil =>
    intro pre hp
    have hl : R.length = pre.length := by rw [hp]; simp
    simp only [lin] at hx
    rw [fi83]
    rw [xl83_0]
    simp only [B83_0, b83, Try.f83, Option.getD, fstC, sndC, bodyC, thnC, elsC]
    simp [xI_seq, xI_region, xI_ret, regA, regOps, runOps, opStep, wantedA, opA, evo, evos, calleeA, lk, nif_eq, putE, paramsE, valS, val2, keepE, restrict, finA, resA, binA, binInt, ofConst, ofConst1, loadA, TK.isAgg, asVar, unA, builtinA, lenOpA, lenA, ileb_cast, ileb_eq, ieqb_dec, indexAddrA, inB_dec, evPairs, storeA, AV.cellsOf, pairsOf, xI_nil, binBool, gcE, evOpt, xI_block, xI_loopH, xI_condM, xI_exitM, xI_skip, xI_blk, exitA, ty2, ty3, ty4, ty33, ty41, eK83_0_0, cellsAt, getCells, takeN, dropN, fieldAddrA, allOne, AV.one, n_push, storeCellsA, putN, overN, ty2, ty33, ty38, ty41, hb, hx, hl]
    simp only [R83_0_0, b83, Try.f83, Option.getD, fstC, sndC, bodyC, thnC, elsC]
    simp [xI_seq, xI_region, xI_ret, regA, regOps, runOps, opStep, wantedA, opA, evo, evos, calleeA, lk, nif_eq, putE, paramsE, valS, val2, keepE, restrict, finA, resA, binA, binInt, ofConst, ofConst1, loadA, TK.isAgg, asVar, unA, builtinA, lenOpA, lenA, ileb_cast, ileb_eq, ieqb_dec, indexAddrA, inB_dec, evPairs, storeA, AV.cellsOf, pairsOf, xI_nil, binBool, gcE, evOpt, xI_block, xI_loopH, xI_condM, xI_exitM, xI_skip, xI_blk, exitA, ty2, ty3, ty4, ty33, ty41, eK83_0_0, cellsAt, getCells, takeN, dropN, fieldAddrA, allOne, AV.one, n_push, storeCellsA, putN, overN, ty2, ty33, ty38, ty41, allR]
  | cons n suf ih =>
    intro pre hp
    have hll : R.length = pre.length + (suf.length + 1) := by rw [hp]; simp
    have hg : R[pre.length]? = some n := by simp [hp]
    have h1 := ih (pre ++ [n]) (by simp [hp])
    have hlt : ¬ R.length ≤ pre.length := by omega
    have hlt2 : pre.length < R.length := by omega
    have hw := wrapS (n := pre.length) (by omega)
    have hc := c127 k hk n σ
    simp only [List.length_append, List.length_singleton] at h1
    have hx' := hx
    simp only [lin] at hx'
    have hrd : ∀ σ, cellsAt σ (.lp (ints R) pre.length) 1 = some [.int .i64 n] := fun σ => lst_read hg
    have hcp : cellsAt σ (.ptr b 0) 1 = some [.int .i64 k] := by simp [cellsAt, hb, hx', getCells, takeN, dropN]
    have hcp1 : cellsAt σ (.ptr b 1) 1 = some [.lst R.length (ints R)] := by simp [cellsAt, hb, hx', getCells, takeN, dropN]
    cases hin : inR n 0 (((pw k : Nat) : Int) - 1) with
    | true =>
      rw [hin] at hc
      rw [fi83] at h1 ⊢
      rw [xl83_0]
      simp only [B83_0, b83, Try.f83, Option.getD, fstC, sndC, bodyC, thnC, elsC]
      simp [xI_seq, xI_region, xI_ret, regA, regOps, runOps, opStep, wantedA, opA, evo, evos, calleeA, lk, nif_eq, putE, paramsE, valS, val2, keepE, restrict, finA, resA, binA, binInt, ofConst, ofConst1, loadA, TK.isAgg, asVar, unA, builtinA, lenOpA, lenA, ileb_cast, ileb_eq, ieqb_dec, indexAddrA, inB_dec, evPairs, storeA, AV.cellsOf, pairsOf, xI_nil, binBool, gcE, evOpt, xI_block, xI_loopH, xI_condM, xI_exitM, xI_skip, xI_blk, exitA, ty2, ty3, ty4, ty33, ty41, eK83_0_0, fieldAddrA, ty2, ty33, ty38, ty41, hcp, hcp1, hrd, hc, hlt, hlt2, hw]
      simpa [allR, hin] using h1
    | false =>
      rw [hin] at hc
      rw [fi83]
      rw [xl83_0]
      simp only [B83_0, b83, Try.f83, Option.getD, fstC, sndC, bodyC, thnC, elsC]
      simp [xI_seq, xI_region, xI_ret, regA, regOps, runOps, opStep, wantedA, opA, evo, evos, calleeA, lk, nif_eq, putE, paramsE, valS, val2, keepE, restrict, finA, resA, binA, binInt, ofConst, ofConst1, loadA, TK.isAgg, asVar, unA, builtinA, lenOpA, lenA, ileb_cast, ileb_eq, ieqb_dec, indexAddrA, inB_dec, evPairs, storeA, AV.cellsOf, pairsOf, xI_nil, binBool, gcE, evOpt, xI_block, xI_loopH, xI_condM, xI_exitM, xI_skip, xI_blk, exitA, ty2, ty3, ty4, ty33, ty41, eK83_0_0, fieldAddrA, ty2, ty33, ty38, ty41, hcp, hcp1, hrd, hc, hlt, hlt2, hw]
      simp [allR, hin]

theorem c83 (w : Int) (R : List Int) (o : Int) (hs : R.length < 1000000000000) (σ : St) (b : Nat) (x : Blk) (hb : σ.get b = some x) (hx : x.cells = lin w R o) : callI TT 83 [.ptr b 0] σ = some (.bool (vlin w R o), σ) := by
  have hx' := hx
  simp only [lin] at hx'
  have hcp : cellsAt σ (.ptr b 0) 1 = some [.int .i64 w] := by simp [cellsAt, hb, hx', getCells, takeN, dropN]
  have hcp1 : cellsAt σ (.ptr b 1) 1 = some [.lst R.length (ints R)] := by simp [cellsAt, hb, hx', getCells, takeN, dropN]
  have hcp2 : cellsAt σ (.ptr b 2) 1 = some [.int .i64 o] := by simp [cellsAt, hb, hx', getCells, takeN, dropN]
  have hi := c88 w 1 16 σ
  rw [cI_0 fn83 rfl md83, fi83]
  cases h1 : inR w 1 16 with
  | false =>
    rw [h1] at hi
    simp [xI_seq, xI_region, xI_ret, regA, regOps, runOps, opStep, wantedA, opA, evo, evos, calleeA, lk, nif_eq, putE, paramsE, valS, val2, keepE, restrict, finA, resA, binA, binInt, ofConst, ofConst1, loadA, TK.isAgg, asVar, unA, builtinA, lenOpA, lenA, ileb_cast, ileb_eq, ieqb_dec, indexAddrA, inB_dec, evPairs, storeA, AV.cellsOf, pairsOf, xI_nil, binBool, gcE, evOpt, xI_block, xI_loopH, xI_condM, xI_exitM, xI_skip, xI_blk, exitA, ty2, ty3, ty4, ty33, ty41, eK83_0_0, fieldAddrA, ty2, ty33, ty38, ty41, hcp, hcp1, hcp2, hi]
    simp [vlin, h1]
  | true =>
    rw [h1] at hi
    have h1' := inR_iff.1 h1
    obtain ⟨k, rfl⟩ : ∃ k : Nat, w = k := ⟨w.toNat, by omega⟩
    have hk : k ≤ 16 := by omega
    by_cases h2 : R.length = k
    · have hc := c127 k hk o σ
      have h3 := l83 R k hk hs o σ b x hb hx R [] rfl
      rw [fi83] at h3
      cases h4 : inR o 0 (((pw k : Nat) : Int) - 1) with
      | false =>
        rw [h4] at hc
        simp [xI_seq, xI_region, xI_ret, regA, regOps, runOps, opStep, wantedA, opA, evo, evos, calleeA, lk, nif_eq, putE, paramsE, valS, val2, keepE, restrict, finA, resA, binA, binInt, ofConst, ofConst1, loadA, TK.isAgg, asVar, unA, builtinA, lenOpA, lenA, ileb_cast, ileb_eq, ieqb_dec, indexAddrA, inB_dec, evPairs, storeA, AV.cellsOf, pairsOf, xI_nil, binBool, gcE, evOpt, xI_block, xI_loopH, xI_condM, xI_exitM, xI_skip, xI_blk, exitA, ty2, ty3, ty4, ty33, ty41, eK83_0_0, fieldAddrA, ty2, ty33, ty38, ty41, hcp, hcp1, hcp2, hi, hc, h2]
        simp [vlin, h1, h2, h4]
      | true =>
        rw [h4] at hc
        simp [xI_seq, xI_region, xI_ret, regA, regOps, runOps, opStep, wantedA, opA, evo, evos, calleeA, lk, nif_eq, putE, paramsE, valS, val2, keepE, restrict, finA, resA, binA, binInt, ofConst, ofConst1, loadA, TK.isAgg, asVar, unA, builtinA, lenOpA, lenA, ileb_cast, ileb_eq, ieqb_dec, indexAddrA, inB_dec, evPairs, storeA, AV.cellsOf, pairsOf, xI_nil, binBool, gcE, evOpt, xI_block, xI_loopH, xI_condM, xI_exitM, xI_skip, xI_blk, exitA, ty2, ty3, ty4, ty33, ty41, eK83_0_0, fieldAddrA, ty2, ty33, ty38, ty41, hcp, hcp1, hcp2, hi, hc, h2]
        simp [vlin, h1, h2, h4]
        exact h3
    · have h2' : ¬ (R.length : Int) = k := by omega
      simp [xI_seq, xI_region, xI_ret, regA, regOps, runOps, opStep, wantedA, opA, evo, evos, calleeA, lk, nif_eq, putE, paramsE, valS, val2, keepE, restrict, finA, resA, binA, binInt, ofConst, ofConst1, loadA, TK.isAgg, asVar, unA, builtinA, lenOpA, lenA, ileb_cast, ileb_eq, ieqb_dec, indexAddrA, inB_dec, evPairs, storeA, AV.cellsOf, pairsOf, xI_nil, binBool, gcE, evOpt, xI_block, xI_loopH, xI_condM, xI_exitM, xI_skip, xI_blk, exitA, ty2, ty3, ty4, ty33, ty41, eK83_0_0, fieldAddrA, ty2, ty33, ty38, ty41, hcp, hcp1, hcp2, hi, h2, h2']
      simp [vlin, h1, h2, h2']

theorem v31 (w : Int) (R : List Int) (o : Int) (hs : R.length < 1000000000000) : FnV TT 31 [.agg (lin w R o)] (.bool (vlin w R o)) := by
  have h := c83 w R o hs ((⟨[], 0⟩ : St).push ⟨lin w R o, 3, false⟩) 0 _ rfl rfl
  refine FnV.mk fn31 rfl md31 ⟨(⟨[], 0⟩ : St).push ⟨lin w R o, 3, false⟩, ?_⟩ (fun _ => rfl) rfl
  rw [fi31]
  simp only [lin] at h ⊢
  simp [xI_seq, xI_region, xI_ret, regA, regOps, runOps, opStep, wantedA, opA, evo, evos, calleeA, lk, nif_eq, putE, paramsE, valS, val2, keepE, restrict, finA, resA, binA, binInt, ofConst, ofConst1, loadA, TK.isAgg, asVar, unA, builtinA, lenOpA, lenA, ileb_cast, ileb_eq, ieqb_dec, indexAddrA, inB_dec, evPairs, storeA, AV.cellsOf, pairsOf, xI_nil, binBool, gcE, evOpt, xI_block, xI_loopH, xI_condM, xI_exitM, xI_skip, xI_blk, exitA, ty41, allOne, AV.one, n_push, h]

theorem c96 (w : Int) (R : List Int) (o s : Int) (hs : R.length < 1000000000000) (σ : St) (b : Nat) (x : Blk) (hb : σ.get b = some x) (hx : x.cells = lin w R o) : callI TT 96 [.ptr b 0, .int .i64 s] σ = some (.bool (vst w R o s), σ) := by
  have h := c83 w R o hs σ b x hb hx
  have hx' := hx
  simp only [lin] at hx'
  have hcp : cellsAt σ (.ptr b 0) 1 = some [.int .i64 w] := by simp [cellsAt, hb, hx', getCells, takeN, dropN]
  rw [cI_0 fn96 rfl md96, fi96]
  cases h1 : vlin w R o with
  | false =>
    rw [h1] at h
    simp [xI_seq, xI_region, xI_ret, regA, regOps, runOps, opStep, wantedA, opA, evo, evos, calleeA, lk, nif_eq, putE, paramsE, valS, val2, keepE, restrict, finA, resA, binA, binInt, ofConst, ofConst1, loadA, TK.isAgg, asVar, unA, builtinA, lenOpA, lenA, ileb_cast, ileb_eq, ieqb_dec, indexAddrA, inB_dec, evPairs, storeA, AV.cellsOf, pairsOf, xI_nil, binBool, gcE, evOpt, xI_block, xI_loopH, xI_condM, xI_exitM, xI_skip, xI_blk, exitA, ty2, ty41, fieldAddrA, ty2, ty33, ty38, ty41, hcp, h]
    simp [vst, h1]
  | true =>
    rw [h1] at h
    obtain ⟨A, k, rfl, rfl, rfl, h2, h3, _⟩ := vlin_nat h1
    have hc := c127 A.length h3 s σ
    simp [xI_seq, xI_region, xI_ret, regA, regOps, runOps, opStep, wantedA, opA, evo, evos, calleeA, lk, nif_eq, putE, paramsE, valS, val2, keepE, restrict, finA, resA, binA, binInt, ofConst, ofConst1, loadA, TK.isAgg, asVar, unA, builtinA, lenOpA, lenA, ileb_cast, ileb_eq, ieqb_dec, indexAddrA, inB_dec, evPairs, storeA, AV.cellsOf, pairsOf, xI_nil, binBool, gcE, evOpt, xI_block, xI_loopH, xI_condM, xI_exitM, xI_skip, xI_blk, exitA, ty2, ty41, fieldAddrA, ty2, ty33, ty38, ty41, hcp, h, hc]
    simp [vst, h1]

theorem v33 (w : Int) (R : List Int) (o : Int) (hs : R.length < 3000000) : FnV TT 33 [.agg (lin w R o)] (.bool (vlin w R o)) := by
  refine FnV.mk fn33 rfl md33 ⟨(⟨[], 0⟩ : St).push ⟨lin w R o, 3, false⟩, ?_⟩ (fun _ => rfl) rfl
  generalize hσ : (⟨[], 0⟩ : St).push ⟨lin w R o, 3, false⟩ = σ
  have hcp : cellsAt σ (.ptr 0 0) 1 = some [.int .i64 w] := by subst hσ; rfl
  have hcp1 : cellsAt σ (.ptr 0 1) 1 = some [.lst R.length (ints R)] := by subst hσ; rfl
  have hcp2 : cellsAt σ (.ptr 0 2) 1 = some [.int .i64 o] := by subst hσ; rfl
  have hi := c80 w 1 16 σ
  have hl : callI TT 81 [.lst R.length (ints R)] σ = some (.int .i64 R.length, σ) := v81 R R.length σ _ rfl
  rw [fi33]
  cases h1 : inR w 1 16 with
  | false =>
    rw [h1] at hi
    simp only [lin] at hσ ⊢
    simp [xI_seq, xI_region, xI_ret, regA, regOps, runOps, opStep, wantedA, opA, evo, evos, calleeA, lk, nif_eq, putE, paramsE, valS, val2, keepE, restrict, finA, resA, binA, binInt, ofConst, ofConst1, loadA, TK.isAgg, asVar, unA, builtinA, lenOpA, lenA, ileb_cast, ileb_eq, ieqb_dec, indexAddrA, inB_dec, evPairs, storeA, AV.cellsOf, pairsOf, xI_nil, binBool, gcE, evOpt, xI_block, xI_loopH, xI_condM, xI_exitM, xI_skip, xI_blk, exitA, ty2, ty33, ty41, runTr, pairsOk, pairOk, lstAt, lastOf, sameVal, AV.eqv, eqvs, eqvs_ints, regOps, blt_dec, cond_true, cond_false, fieldAddrA, allOne, AV.one, n_push, ty2, ty33, ty38, ty41, hσ, hcp, hcp1, hcp2, hi]
    simp [vlin, h1]
  | true =>
    rw [h1] at hi
    have h1' := inR_iff.1 h1
    obtain ⟨k, rfl⟩ : ∃ k : Nat, w = k := ⟨w.toNat, by omega⟩
    have hk : k ≤ 16 := by omega
    have e2 := sh_1 (b := k) (by omega)
    have e3 := pw_dec hk
    by_cases h2 : R.length = k
    · have ha : callI TT 79 [.lst R.length (ints R), .int .i64 0, .int .i64 (((pw k : Nat) : Int) - 1)] σ = some (.bool (allR R 0 (((pw k : Nat) : Int) - 1)), σ) := v79 R R.length rfl hs 0 _ σ _ rfl
      rw [h2] at ha hl hcp1
      have hi2 := c80 o 0 (((pw k : Nat) : Int) - 1) σ
      simp only [lin, h2] at hσ ⊢
      cases h4 : allR R 0 (((pw k : Nat) : Int) - 1) with
      | false =>
        rw [h4] at ha
        simp [xI_seq, xI_region, xI_ret, regA, regOps, runOps, opStep, wantedA, opA, evo, evos, calleeA, lk, nif_eq, putE, paramsE, valS, val2, keepE, restrict, finA, resA, binA, binInt, ofConst, ofConst1, loadA, TK.isAgg, asVar, unA, builtinA, lenOpA, lenA, ileb_cast, ileb_eq, ieqb_dec, indexAddrA, inB_dec, evPairs, storeA, AV.cellsOf, pairsOf, xI_nil, binBool, gcE, evOpt, xI_block, xI_loopH, xI_condM, xI_exitM, xI_skip, xI_blk, exitA, ty2, ty33, ty41, runTr, pairsOk, pairOk, lstAt, lastOf, sameVal, AV.eqv, eqvs, eqvs_ints, regOps, blt_dec, cond_true, cond_false, fieldAddrA, allOne, AV.one, n_push, ty2, ty33, ty38, ty41, hσ, hcp, hcp1, hcp2, hi, hl, ha, e2, e3]
        simp [vlin, h1, h2, h4]
      | true =>
        rw [h4] at ha
        simp [xI_seq, xI_region, xI_ret, regA, regOps, runOps, opStep, wantedA, opA, evo, evos, calleeA, lk, nif_eq, putE, paramsE, valS, val2, keepE, restrict, finA, resA, binA, binInt, ofConst, ofConst1, loadA, TK.isAgg, asVar, unA, builtinA, lenOpA, lenA, ileb_cast, ileb_eq, ieqb_dec, indexAddrA, inB_dec, evPairs, storeA, AV.cellsOf, pairsOf, xI_nil, binBool, gcE, evOpt, xI_block, xI_loopH, xI_condM, xI_exitM, xI_skip, xI_blk, exitA, ty2, ty33, ty41, runTr, pairsOk, pairOk, lstAt, lastOf, sameVal, AV.eqv, eqvs, eqvs_ints, regOps, blt_dec, cond_true, cond_false, fieldAddrA, allOne, AV.one, n_push, ty2, ty33, ty38, ty41, hσ, hcp, hcp1, hcp2, hi, hl, ha, e2, e3, hi2]
        simp [vlin, h1, h2, h4]
    · have h2' : ¬ (R.length : Int) = k := by omega
      simp only [lin] at hσ ⊢
      simp [xI_seq, xI_region, xI_ret, regA, regOps, runOps, opStep, wantedA, opA, evo, evos, calleeA, lk, nif_eq, putE, paramsE, valS, val2, keepE, restrict, finA, resA, binA, binInt, ofConst, ofConst1, loadA, TK.isAgg, asVar, unA, builtinA, lenOpA, lenA, ileb_cast, ileb_eq, ieqb_dec, indexAddrA, inB_dec, evPairs, storeA, AV.cellsOf, pairsOf, xI_nil, binBool, gcE, evOpt, xI_block, xI_loopH, xI_condM, xI_exitM, xI_skip, xI_blk, exitA, ty2, ty33, ty41, runTr, pairsOk, pairOk, lstAt, lastOf, sameVal, AV.eqv, eqvs, eqvs_ints, regOps, blt_dec, cond_true, cond_false, fieldAddrA, allOne, AV.one, n_push, ty2, ty33, ty38, ty41, hσ, hcp, hcp1, hcp2, hi, hl, h2, h2']
      simp [vlin, h1, h2, h2']

theorem v98 (w : Int) (R : List Int) (o s : Int) (hs : R.length < 3000000) : FnV TT 98 [.agg (lin w R o), .int .i64 s] (.bool (vst w R o s)) := by
  refine FnV.mk fn98 rfl md98 ⟨(⟨[], 0⟩ : St).push ⟨lin w R o, 3, false⟩, ?_⟩ (fun _ => rfl) rfl
  generalize hσ : (⟨[], 0⟩ : St).push ⟨lin w R o, 3, false⟩ = σ
  have hcp : cellsAt σ (.ptr 0 0) 1 = some [.int .i64 w] := by subst hσ; rfl
  have hcp3 : cellsAt σ (.ptr 0 0) 3 = some [.int .i64 w, .lst R.length (ints R), .int .i64 o] := by subst hσ; rfl
  have h : callI TT 33 [.agg [.int .i64 w, .lst R.length (ints R), .int .i64 o]] σ = some (.bool (vlin w R o), σ) := v33 w R o hs σ _ rfl
  rw [fi98]
  simp only [lin] at hσ ⊢
  cases h1 : vlin w R o with
  | false =>
    rw [h1] at h
    simp [xI_seq, xI_region, xI_ret, regA, regOps, runOps, opStep, wantedA, opA, evo, evos, calleeA, lk, nif_eq, putE, paramsE, valS, val2, keepE, restrict, finA, resA, binA, binInt, ofConst, ofConst1, loadA, TK.isAgg, asVar, unA, builtinA, lenOpA, lenA, ileb_cast, ileb_eq, ieqb_dec, indexAddrA, inB_dec, evPairs, storeA, AV.cellsOf, pairsOf, xI_nil, binBool, gcE, evOpt, xI_block, xI_loopH, xI_condM, xI_exitM, xI_skip, xI_blk, exitA, ty2, ty41, runTr, pairsOk, pairOk, lstAt, lastOf, sameVal, AV.eqv, eqvs, eqvs_ints, regOps, blt_dec, cond_true, cond_false, fieldAddrA, allOne, AV.one, n_push, ty2, ty33, ty38, ty41, hσ, hcp, hcp3, h]
    simp [vst, h1]
  | true =>
    rw [h1] at h
    obtain ⟨A, k, rfl, rfl, rfl, h2, h3, _⟩ := vlin_nat h1
    have e2 := sh_1 (b := A.length) (by omega)
    have e3 := pw_dec h3
    have hi2 := c80 s 0 (((pw A.length : Nat) : Int) - 1) σ
    simp only [nints_length] at *
    simp [xI_seq, xI_region, xI_ret, regA, regOps, runOps, opStep, wantedA, opA, evo, evos, calleeA, lk, nif_eq, putE, paramsE, valS, val2, keepE, restrict, finA, resA, binA, binInt, ofConst, ofConst1, loadA, TK.isAgg, asVar, unA, builtinA, lenOpA, lenA, ileb_cast, ileb_eq, ieqb_dec, indexAddrA, inB_dec, evPairs, storeA, AV.cellsOf, pairsOf, xI_nil, binBool, gcE, evOpt, xI_block, xI_loopH, xI_condM, xI_exitM, xI_skip, xI_blk, exitA, ty2, ty41, runTr, pairsOk, pairOk, lstAt, lastOf, sameVal, AV.eqv, eqvs, eqvs_ints, regOps, blt_dec, cond_true, cond_false, fieldAddrA, allOne, AV.one, n_push, ty2, ty33, ty38, ty41, hσ, hcp, hcp3, h, e2, e3, hi2]
    simp [vst, h1]

end Go.Proofs.Ytonnbgjbohbibaa
