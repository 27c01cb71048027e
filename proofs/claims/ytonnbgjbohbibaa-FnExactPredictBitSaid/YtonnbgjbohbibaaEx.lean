/- Contracts: states behind what is seen. Nothing is claimed here; no condition. -/
import Derived.Test.YtonnbgjbohbibaaEw
namespace Go.Proofs.Ytonnbgjbohbibaa
open Go Go.Abs
set_option linter.unusedSimpArgs false
set_option linter.unusedVariables false
open Go.Wd
theorem c140 (a b : Int) (σ : St) : callI TT 140 [.agg [.int .i64 a, .int .i64 b]] σ = some (.bool (!sen1 (a, b)), σ) := by
  refine (FnV.mk (args' := [.agg [.int .i64 a, .int .i64 b]]) fn140 rfl md140 ?_ (fun _ => rfl) rfl) σ _ rfl
  obtain ⟨σ0, hσ⟩ : ∃ σ0, (⟨[], 0⟩ : St).push ⟨[.int .i64 a, .int .i64 b], 2, false⟩ = σ0 := ⟨_, rfl⟩
  have k0 : cellsAt σ0 (.ptr 0 0) 1 = some [.int .i64 a] := by subst hσ; rfl
  have k1 : cellsAt σ0 (.ptr 0 1) 1 = some [.int .i64 b] := by subst hσ; rfl
  have h1 := c80 a 0 10000 σ0
  have h2 := c80 b 0 1 σ0
  rw [fi140]
  cases ha : inR a 0 10000 with
  | false =>
    rw [ha] at h1
    simp [xI_seq, xI_region, xI_ret, regA, regOps, runOps, opStep, wantedA, opA, evo, evos, calleeA, lk, nif_eq, putE, paramsE, valS, val2, keepE, restrict, finA, resA, binA, binInt, ofConst, ofConst1, loadA, TK.isAgg, asVar, unA, builtinA, lenOpA, lenA, ileb_cast, ileb_eq, ieqb_dec, indexAddrA, inB_dec, evPairs, storeA, AV.cellsOf, pairsOf, xI_nil, binBool, gcE, evOpt, xI_block, xI_loopH, xI_condM, xI_exitM, xI_skip, xI_blk, exitA, ty2, ty4, ty76, fieldAddrA, allOne, AV.one, n_push, ty2, ty76, hσ, k0, k1, h1]
    simp [sen1, ha]
  | true =>
    rw [ha] at h1
    simp [xI_seq, xI_region, xI_ret, regA, regOps, runOps, opStep, wantedA, opA, evo, evos, calleeA, lk, nif_eq, putE, paramsE, valS, val2, keepE, restrict, finA, resA, binA, binInt, ofConst, ofConst1, loadA, TK.isAgg, asVar, unA, builtinA, lenOpA, lenA, ileb_cast, ileb_eq, ieqb_dec, indexAddrA, inB_dec, evPairs, storeA, AV.cellsOf, pairsOf, xI_nil, binBool, gcE, evOpt, xI_block, xI_loopH, xI_condM, xI_exitM, xI_skip, xI_blk, exitA, ty2, ty4, ty76, fieldAddrA, allOne, AV.one, n_push, ty2, ty76, hσ, k0, k1, h1, h2]
    simp [sen1, ha]

noncomputable def b145 : Code := Try.f145.body.getD .skip
noncomputable def B145_0 : Code := (bodyC (bodyC (sndC (fstC (sndC b145)))))
noncomputable def K145_0 : List It := .lp B145_0 :: .blk 0 :: .code (sndC (sndC b145)) :: []
theorem xl145_0 {fi : FI} {env : Env} {σ : St} : exI TT fi K145_0 env σ = exI TT fi (.code B145_0 :: K145_0) env σ := by unfold K145_0; exact xI_lp
noncomputable def R145_0_0 : List It := .code (sndC (sndC b145)) :: []
theorem eK145_0_0 : exitA 0 K145_0 = some R145_0_0 := rfl
theorem l145 (l : List (Int × Int)) (len : Nat) (hlen : len = l.length) (hs : len < 1000000000000) (σ : St) : ∀ (suf pre : List (Int × Int)), l = pre ++ suf →
    ∃ r : Int, exI TT (FI.of Try.f145 (TT.an 145)) K145_0 [(0, .lst len (pairs l)), (1, .fn 140 [] []), (7, .int .i64 len), (8, .int .i64 pre.length)] σ = some (.int .i64 r, σ) ∧ decide (0 ≤ r) = !suf.all sen1 := by
  intro suf
  induction suf with
  | nil =>
    intro pre hl
    refine ⟨-1, ?_, by simp⟩
    have hl : len = pre.length := by rw [hlen, hl]; simp
    subst hl
    rw [fi145]
    rw [xl145_0]
    simp only [B145_0, b145, Try.f145, Option.getD, fstC, sndC, bodyC, thnC, elsC]
    simp [xI_seq, xI_region, xI_ret, regA, regOps, runOps, opStep, wantedA, opA, evo, evos, calleeA, lk, nif_eq, putE, paramsE, valS, val2, keepE, restrict, finA, resA, binA, binInt, ofConst, ofConst1, loadA, TK.isAgg, asVar, unA, builtinA, lenOpA, lenA, ileb_cast, ileb_eq, ieqb_dec, indexAddrA, inB_dec, evPairs, storeA, AV.cellsOf, pairsOf, xI_nil, binBool, gcE, evOpt, xI_block, xI_loopH, xI_condM, xI_exitM, xI_skip, xI_blk, exitA, ty3, ty74, ty76, eK145_0_0]
    simp only [R145_0_0, b145, Try.f145, Option.getD, fstC, sndC, bodyC, thnC, elsC]
    simp [xI_seq, xI_region, xI_ret, regA, regOps, runOps, opStep, wantedA, opA, evo, evos, calleeA, lk, nif_eq, putE, paramsE, valS, val2, keepE, restrict, finA, resA, binA, binInt, ofConst, ofConst1, loadA, TK.isAgg, asVar, unA, builtinA, lenOpA, lenA, ileb_cast, ileb_eq, ieqb_dec, indexAddrA, inB_dec, evPairs, storeA, AV.cellsOf, pairsOf, xI_nil, binBool, gcE, evOpt, xI_block, xI_loopH, xI_condM, xI_exitM, xI_skip, xI_blk, exitA, ty3, ty74, ty76, eK145_0_0]
  | cons x suf ih =>
    intro pre hl
    obtain ⟨a, b⟩ := x
    have hll : len = pre.length + (suf.length + 1) := by rw [hlen, hl]; simp
    have hg : l[pre.length]? = some (a, b) := by simp [hl]
    obtain ⟨q2, _, _⟩ := pairs_get hg
    have k2 : cellsAt σ (.lp (pairs l) (pre.length * 2)) 2 = some [.int .i64 a, .int .i64 b] := q2
    obtain ⟨r, h1, h2⟩ := ih (pre ++ [(a, b)]) (by simp [hl])
    have hlt : ¬ len ≤ pre.length := by omega
    have hlt2 : pre.length < len := by omega
    have hw := wrapS (n := pre.length) (by omega)
    have hc := c140 a b σ
    simp only [show (pre ++ [(a, b)]).length = pre.length + 1 by simp, Int.natCast_add, show ((1 : Nat) : Int) = 1 from rfl] at h1
    cases hin : sen1 (a, b) with
    | true =>
      rw [hin] at hc
      refine ⟨r, ?_, by rw [h2]; simp [hin]⟩
      rw [fi145] at h1 ⊢
      rw [xl145_0]
      simp only [B145_0, b145, Try.f145, Option.getD, fstC, sndC, bodyC, thnC, elsC]
      simp [xI_seq, xI_region, xI_ret, regA, regOps, runOps, opStep, wantedA, opA, evo, evos, calleeA, lk, nif_eq, putE, paramsE, valS, val2, keepE, restrict, finA, resA, binA, binInt, ofConst, ofConst1, loadA, TK.isAgg, asVar, unA, builtinA, lenOpA, lenA, ileb_cast, ileb_eq, ieqb_dec, indexAddrA, inB_dec, evPairs, storeA, AV.cellsOf, pairsOf, xI_nil, binBool, gcE, evOpt, xI_block, xI_loopH, xI_condM, xI_exitM, xI_skip, xI_blk, exitA, ty3, ty74, ty76, eK145_0_0, hw, hlt, hlt2, k2, hc, ty74, ty76]
      exact h1
    | false =>
      rw [hin] at hc
      refine ⟨pre.length, ?_, by simp [hin]⟩
      rw [fi145]
      rw [xl145_0]
      simp only [B145_0, b145, Try.f145, Option.getD, fstC, sndC, bodyC, thnC, elsC]
      simp [xI_seq, xI_region, xI_ret, regA, regOps, runOps, opStep, wantedA, opA, evo, evos, calleeA, lk, nif_eq, putE, paramsE, valS, val2, keepE, restrict, finA, resA, binA, binInt, ofConst, ofConst1, loadA, TK.isAgg, asVar, unA, builtinA, lenOpA, lenA, ileb_cast, ileb_eq, ieqb_dec, indexAddrA, inB_dec, evPairs, storeA, AV.cellsOf, pairsOf, xI_nil, binBool, gcE, evOpt, xI_block, xI_loopH, xI_condM, xI_exitM, xI_skip, xI_blk, exitA, ty3, ty74, ty76, eK145_0_0, hw, hlt, hlt2, k2, hc, ty74, ty76]

theorem c139 (l : List (Int × Int)) (hs : l.length < 1000000000000) (σ : St) : callI TT 139 [.lst l.length (pairs l), .fn 140 [] []] σ = some (.bool (!l.all sen1), σ) := by
  obtain ⟨r, h1, h2⟩ := l145 l l.length rfl hs σ l [] rfl
  have hc : callI TT 145 [.lst l.length (pairs l), .fn 140 [] []] σ = some (.int .i64 r, σ) := by
    rw [cI_0 fn145 rfl md145, ← h1, fi145]
    simp [xI_seq, xI_region, xI_ret, regA, regOps, runOps, opStep, wantedA, opA, evo, evos, calleeA, lk, nif_eq, putE, paramsE, valS, val2, keepE, restrict, finA, resA, binA, binInt, ofConst, ofConst1, loadA, TK.isAgg, asVar, unA, builtinA, lenOpA, lenA, ileb_cast, ileb_eq, ieqb_dec, indexAddrA, inB_dec, evPairs, storeA, AV.cellsOf, pairsOf, xI_nil, binBool, gcE, evOpt, xI_block, xI_loopH, xI_condM, xI_exitM, xI_skip, xI_blk, exitA, ty3, ty74, ty76, eK145_0_0]
    rfl
  rw [cI_0 fn139 rfl md139, fi139]
  rw [← h2]
  simp [xI_seq, xI_region, xI_ret, regA, regOps, runOps, opStep, wantedA, opA, evo, evos, calleeA, lk, nif_eq, putE, paramsE, valS, val2, keepE, restrict, finA, resA, binA, binInt, ofConst, ofConst1, loadA, TK.isAgg, asVar, unA, builtinA, lenOpA, lenA, ileb_cast, ileb_eq, ieqb_dec, indexAddrA, inB_dec, evPairs, storeA, AV.cellsOf, pairsOf, xI_nil, binBool, gcE, evOpt, xI_block, xI_loopH, xI_condM, xI_exitM, xI_skip, xI_blk, exitA, ty3, hc]

theorem v114 (l : List (Int × Int)) (hs : l.length < 1000000000000) : FnV TT 114 [.lst l.length (pairs l)] (.bool (senOk l)) := by
  refine FnV.mk fn114 rfl md114 ⟨⟨[], 0⟩, ?_⟩ (fun _ => rfl) rfl
  have hc := c139 l hs ⟨[], 0⟩
  rw [fi114]
  by_cases h1 : l.length ≤ 64
  · have h2 : (l.length : Int) ≤ 64 := by omega
    rw [show senOk l = l.all sen1 by simp [senOk, h1]]
    generalize l.all sen1 = b at *
    generalize l.length = n at *
    simp [xI_seq, xI_region, xI_ret, regA, regOps, runOps, opStep, wantedA, opA, evo, evos, calleeA, lk, nif_eq, putE, paramsE, valS, val2, keepE, restrict, finA, resA, binA, binInt, ofConst, ofConst1, loadA, TK.isAgg, asVar, unA, builtinA, lenOpA, lenA, ileb_cast, ileb_eq, ieqb_dec, indexAddrA, inB_dec, evPairs, storeA, AV.cellsOf, pairsOf, xI_nil, binBool, gcE, evOpt, xI_block, xI_loopH, xI_condM, xI_exitM, xI_skip, xI_blk, exitA, ty3, ty4, ty74, ty76, h1, h2, hc]
  · have h2 : ¬ (l.length : Int) ≤ 64 := by omega
    rw [show senOk l = false by simp [senOk, h1]]
    generalize l.length = n at *
    simp [xI_seq, xI_region, xI_ret, regA, regOps, runOps, opStep, wantedA, opA, evo, evos, calleeA, lk, nif_eq, putE, paramsE, valS, val2, keepE, restrict, finA, resA, binA, binInt, ofConst, ofConst1, loadA, TK.isAgg, asVar, unA, builtinA, lenOpA, lenA, ileb_cast, ileb_eq, ieqb_dec, indexAddrA, inB_dec, evPairs, storeA, AV.cellsOf, pairsOf, xI_nil, binBool, gcE, evOpt, xI_block, xI_loopH, xI_condM, xI_exitM, xI_skip, xI_blk, exitA, ty3, ty4, ty74, ty76, h1, h2]

theorem ES.old {σ σ' : St} {e lo w : Nat} {rows : List Nat} {v : AV} (h : ES σ e lo w rows v) (k : Old σ σ') : ES σ' e lo w rows v := by
  obtain ⟨h1, h2, h3, h4⟩ := h
  refine ⟨Nat.lt_of_lt_of_le h1 k.1, Nat.le_trans h2 k.1, (k.2 e h1).trans h3, ?_⟩
  rcases h4 with h4 | ⟨b, b1, b2, b3, b4⟩
  · exact .inl h4
  · exact .inr ⟨b, b1, b2, b3, b4.old k⟩
theorem boxed2o (σ : St) (a b x y : AV) (h : allOne [x, y] = true) : ∃ σ', storeCellsA (σ.push ⟨[a, b], 2, false⟩) σ.n 0 [x, y] = some σ' ∧ cellsAt σ' (.ptr σ.n 0) 1 = some [x] ∧ cellsAt σ' (.ptr σ.n 1) 1 = some [y] ∧ Old σ σ' := by
  refine ⟨(σ.push ⟨[a, b], 2, false⟩).set σ.n ⟨[x, y], 2, false⟩, ?_, ?_, ?_, Nat.le_succ _, fun c hc => ?_⟩
  · simp [storeCellsA, get_push_same, h, putN, overN]
  · simp [cellsAt, get_set_eq (get_push_same), getCells, takeN, dropN]
  · simp [cellsAt, get_set_eq (get_push_same), getCells, takeN, dropN]
  · rw [get_set_ne (by omega), get_push_lt hc]
theorem boxed1o (σ : St) (a x : AV) (h : allOne [x] = true) : ∃ σ', storeCellsA (σ.push ⟨[a], 1, false⟩) σ.n 0 [x] = some σ' ∧ σ'.get σ.n = some ⟨[x], 1, false⟩ ∧ Old σ σ' ∧ σ'.n = σ.n + 1 := by
  refine ⟨(σ.push ⟨[a], 1, false⟩).set σ.n ⟨[x], 1, false⟩, ?_, get_set_eq get_push_same, ⟨Nat.le_succ _, fun c hc => ?_⟩, rfl⟩
  · simp [storeCellsA, get_push_same, h, putN, overN]
  · rw [get_set_ne (by omega), get_push_lt hc]
/-- The last output that is asked for. -/
def lastS : Nat → List (Nat × Nat) → Nat
  | m, [] => m
  | m, x :: r => lastS (max m x.1) r
theorem lastS_ge : ∀ (l : List (Nat × Nat)) (m : Nat), m ≤ lastS m l ∧ ∀ x ∈ l, x.1 ≤ lastS m l
  | [], m => ⟨Nat.le_refl _, by simp⟩
  | y :: r, m => by
    obtain ⟨h1, h2⟩ := lastS_ge r (max m y.1)
    refine ⟨by simp only [lastS]; omega, fun x hx => ?_⟩
    rcases List.mem_cons.1 hx with rfl | hx
    · simp only [lastS]; omega
    · exact h2 x hx
theorem lastS_le : ∀ (l : List (Nat × Nat)) (m : Nat), m ≤ 10000 → (∀ x ∈ l, x.1 ≤ 10000) → lastS m l ≤ 10000
  | [], _, h, _ => h
  | y :: r, m, h, hx => lastS_le r _ (by have := hx y (by simp); omega) fun x h => hx x (by simp [h])
theorem mks_get (A : List Nat) (o : Nat) {i n : Nat} (h : i < n) : (nints (mks A o n))[i]? = some ((mk A o i : Nat) : Int) := nints_get (by simp [mks, h])

theorem c141 (A : List Nat) (o i : Nat) (hi : i ≤ 20000) (σ : St) (q b : Nat) (hq : σ.get q = some ⟨[.sl b 0 i i], 1, false⟩) (hqn : q < σ.n) (hqb : q ≠ b) (hr : Row σ b (nints (mks A o i))) (at_ : Int) :
    ∃ σ' b', callI TT 141 [.int .i64 at_, .int .i64 (mk A o i : Nat), .ptr q 0] σ = some (.tup [], σ') ∧ σ'.get q = some ⟨[.sl b' 0 (i + 1) (i + 1)], 1, false⟩ ∧ q ≠ b' ∧ Row σ' b' (nints (mks A o (i + 1))) ∧ σ.n ≤ b' ∧ σ.n ≤ σ'.n ∧ ∀ c, c < σ.n → c ≠ q → c ≠ b → σ'.get c = σ.get c := by
  obtain ⟨σ1, a1, r1, n1, u1⟩ := nints_append_row (x := mk A o i) ty33 ty2 hr (n := i) (mks_length _ _ _).symm (by omega)
  rw [← mks_succ] at r1
  have hq1 : σ1.get q = some ⟨[.sl b 0 i i], 1, false⟩ := (u1 q hqb hqn).trans hq
  refine ⟨σ1.set q ⟨[.sl (σ.n + 1) 0 (i + 1) (i + 1)], 1, false⟩, σ.n + 1, ?_, get_set_eq hq1, by omega, r1.keep (Nat.le_refl _) (get_set_ne (by omega)), by omega, by rw [n_set]; omega, fun c hc hcq hcb => ?_⟩
  · have k0 : cellsAt σ (.ptr q 0) 1 = some [.sl b 0 i i] := by simp [cellsAt, hq, getCells, takeN, dropN]
    have s1 : storeCellsA σ1 q 0 [.sl (σ.n + 1) 0 (i + 1) (i + 1)] = some (σ1.set q ⟨[.sl (σ.n + 1) 0 (i + 1) (i + 1)], 1, false⟩) := by simp [storeCellsA, hq1, allOne, AV.one, putN, overN]
    rw [cI_0 fn141 rfl md141, fi141]
    simp [xI_seq, xI_region, xI_ret, regA, regOps, runOps, opStep, wantedA, opA, evo, evos, calleeA, lk, nif_eq, putE, paramsE, valS, val2, keepE, restrict, finA, resA, binA, binInt, ofConst, ofConst1, loadA, TK.isAgg, asVar, unA, builtinA, lenOpA, lenA, ileb_cast, ileb_eq, ieqb_dec, indexAddrA, inB_dec, evPairs, storeA, AV.cellsOf, pairsOf, xI_nil, binBool, gcE, evOpt, xI_block, xI_loopH, xI_condM, xI_exitM, xI_skip, xI_blk, exitA, ty2, ty33, ty33, k0, bs1, a1, s1]
  · rw [get_set_ne (fun h => hcq h.symm)]; exact u1 c hcb hc

noncomputable def b115 : Code := Try.f115.body.getD .skip
noncomputable def B115_0 : Code := (bodyC (bodyC (sndC (fstC (sndC (sndC b115))))))
noncomputable def K115_0 : List It := .lp B115_0 :: .blk 0 :: .code (sndC (sndC (sndC b115))) :: []
theorem xl115_0 {fi : FI} {env : Env} {σ : St} : exI TT fi K115_0 env σ = exI TT fi (.code B115_0 :: K115_0) env σ := by unfold K115_0; exact xI_lp
noncomputable def R115_0_0 : List It := .code (sndC (sndC (sndC b115))) :: []
theorem eK115_0_0 : exitA 0 K115_0 = some R115_0_0 := rfl
noncomputable def B115_1 : Code := (bodyC (bodyC (sndC (fstC (sndC (sndC (sndC (sndC (sndC (sndC b115))))))))))
noncomputable def K115_1 : List It := .lp B115_1 :: .blk 2 :: .code (sndC (sndC (sndC (sndC (sndC (sndC (sndC b115))))))) :: []
theorem xl115_1 {fi : FI} {env : Env} {σ : St} : exI TT fi K115_1 env σ = exI TT fi (.code B115_1 :: K115_1) env σ := by unfold K115_1; exact xI_lp
noncomputable def R115_1_2 : List It := .code (sndC (sndC (sndC (sndC (sndC (sndC (sndC b115))))))) :: []
theorem eK115_1_2 : exitA 2 K115_1 = some R115_1_2 := rfl
theorem max_i (a b : Nat) : minmaxA true [.int .i64 (a : Int), .int .i64 (b : Int)] = some (.int .i64 ((max a b : Nat) : Int)) := by
  by_cases h : a < b
  · have h2 : max a b = b := Nat.max_eq_right (by omega)
    have h4 : (b : Int) > (a : Int) := by omega
    rw [h2]
    simp only [minmaxA, mmStep, if_true]
    rw [if_pos h4]
  · have h2 : max a b = a := Nat.max_eq_left (by omega)
    have h4 : ¬ (b : Int) > (a : Int) := by omega
    rw [h2]
    simp only [minmaxA, mmStep, if_true]
    rw [if_neg h4]
theorem l115a (S : List (Nat × Nat)) (wanted p : Nat) (len : Nat) (hlen : len = S.length) (hl : len ≤ 64) : ∀ (suf pre : List (Nat × Nat)) (last : Nat) (σ : St), S = pre ++ suf →
    ∃ σ', exI TT (FI.of Try.f115 (TT.an 115)) K115_0 [(1, .lst len (pairs (npairs S))), (2, .int .i64 wanted), (3, .ptr p 0), (9, .int .i64 last), (17, .lst len (pairs (npairs S))), (18, .int .i64 len), (19, .int .i64 pre.length)] σ =
      exI TT (FI.of Try.f115 (TT.an 115)) R115_0_0 [(1, .lst len (pairs (npairs S))), (2, .int .i64 wanted), (3, .ptr p 0), (9, .int .i64 (lastS last suf)), (17, .lst len (pairs (npairs S))), (18, .int .i64 len), (19, .int .i64 len), (20, .bool false)] σ' ∧ Old σ σ' := by
  intro suf
  induction suf with
  | nil =>
    intro pre last σ hp
    have hll : len = pre.length := by rw [hlen, hp]; simp
    subst hll
    refine ⟨σ, ?_, Old.refl σ⟩
    simp only [lastS]
    rw [fi115]
    rw [xl115_0]
    simp only [B115_0, b115, Try.f115, Option.getD, fstC, sndC, bodyC, thnC, elsC]
    simp [xI_seq, xI_region, xI_ret, regA, regOps, runOps, opStep, wantedA, opA, evo, evos, calleeA, lk, nif_eq, putE, paramsE, valS, val2, keepE, restrict, finA, resA, binA, binInt, ofConst, ofConst1, loadA, TK.isAgg, asVar, unA, builtinA, lenOpA, lenA, ileb_cast, ileb_eq, ieqb_dec, indexAddrA, inB_dec, evPairs, storeA, AV.cellsOf, pairsOf, xI_nil, binBool, gcE, evOpt, xI_block, xI_loopH, xI_condM, xI_exitM, xI_skip, xI_blk, exitA, ty2, ty3, ty4, ty33, ty41, ty74, ty76, ty127, eK115_0_0, eK115_1_2]
  | cons x suf ih =>
    intro pre last σ hp
    obtain ⟨a, b⟩ := x
    have hll : len = pre.length + (suf.length + 1) := by rw [hlen, hp]; simp
    have hg : (npairs S)[pre.length]? = some ((a : Int), (b : Int)) := npairs_get (by simp [hp])
    obtain ⟨q2, _, _⟩ := pairs_get hg
    have k2 : ∀ σ, cellsAt σ (.lp (pairs (npairs S)) (pre.length * 2)) 2 = some [.int .i64 a, .int .i64 b] := fun σ => q2
    obtain ⟨σ1, s1, d0, d1, o1⟩ := boxed2o σ (.int .i64 0) (.int .i64 0) (.int .i64 a) (.int .i64 b) rfl
    obtain ⟨σ', h1, h2⟩ := ih (pre ++ [(a, b)]) (max last a) σ1 (by simp [hp])
    refine ⟨σ', ?_, o1.trans h2⟩
    have hlt : ¬ len ≤ pre.length := by omega
    have hlt2 : pre.length < len := by omega
    have hw := wrapS (n := pre.length) (by omega)
    have hm := max_i last a
    simp only [show (pre ++ [(a, b)]).length = pre.length + 1 by simp, Int.natCast_add, show ((1 : Nat) : Int) = 1 from rfl] at h1
    rw [show lastS last ((a, b) :: suf) = lastS (max last a) suf from rfl]
    generalize max last a = z at *
    rw [fi115] at h1 ⊢
    rw [xl115_0]
    simp only [B115_0, b115, Try.f115, Option.getD, fstC, sndC, bodyC, thnC, elsC]
    simp [xI_seq, xI_region, xI_ret, regA, regOps, runOps, opStep, wantedA, opA, evo, evos, calleeA, lk, nif_eq, putE, paramsE, valS, val2, keepE, restrict, finA, resA, binA, binInt, ofConst, ofConst1, loadA, TK.isAgg, asVar, unA, builtinA, lenOpA, lenA, ileb_cast, ileb_eq, ieqb_dec, indexAddrA, inB_dec, evPairs, storeA, AV.cellsOf, pairsOf, xI_nil, binBool, gcE, evOpt, xI_block, xI_loopH, xI_condM, xI_exitM, xI_skip, xI_blk, exitA, ty2, ty3, ty4, ty33, ty41, ty74, ty76, ty127, eK115_0_0, eK115_1_2, fieldAddrA, allOne, AV.one, ty2, ty33, ty41, ty74, ty76, hlt, hlt2, hw, k2, s1, d0, d1, hm]
    exact h1

def bhR (e wanted : Nat) (r : Option (List Nat)) (mw : Nat) : AV := match r with
  | some _ => .tup [.ptr e 0, .int .i64 mw, .bool true]
  | none => .tup [.nilP, .int .i64 0, .bool false]
theorem red_step {w : Nat} {rows rows' : List Nat} {e : Nat} (h : add w rows e = some rows') (hR : Red w rows) (he : e < 2 ^ (w + 1)) : Red w rows' ∧ rows'.length ≤ rows.length + 1 := by
  refine ⟨(addAll_some [e] rows rows' hR (by simpa using he) (by simp [addAll, h])).1, ?_⟩
  rw [add_eq] at h
  split at h
  · split at h
    · cases h; omega
    · cases h
  · cases h; simp
theorem l115b (A : List Nat) (o : Nat) (h16 : A.length ≤ 16) (hA : ∀ r ∈ A, r < 2 ^ A.length) (ho : o < 2 ^ A.length) (S : List (Nat × Nat)) (hS : ∀ x ∈ S, x.1 ≤ 10000 ∧ x.2 ≤ 1) (len : Nat) (hlen : len = S.length) (hl : len ≤ 64) (wanted M : Nat) (hM : ∀ x ∈ S, x.1 < M) (hW : wanted < M) (e lo q bm : Nat) (σm : St) (hq : σm.get q = some ⟨[.sl bm 0 M M], 1, false⟩) (hq1 : q < lo) (hq2 : q ≠ e) (hb1 : bm < lo) (hb2 : bm ≠ e) (hrm : Row σm bm (nints (mks A o M))) : ∀ (suf pre : List (Nat × Nat)) (rows : List Nat) (v : AV) (σ : St), S = pre ++ suf → ES σ e lo A.length rows v → Red A.length rows → rows.length ≤ pre.length → (∀ c, c < lo → c ≠ e → σ.get c = σm.get c) →
    ∃ σ', exI TT (FI.of Try.f115 (TT.an 115)) K115_1 [(2, .int .i64 wanted), (12, .ptr q 0), (13, .ptr e 0), (38, .lst len (pairs (npairs S))), (39, .int .i64 len), (40, .int .i64 pre.length)] σ = some (bhR e wanted (addAll A.length rows (seqs A.length A o suf)) (mk A o wanted), σ') ∧
      (∀ rows', addAll A.length rows (seqs A.length A o suf) = some rows' → ∃ v', ES σ' e lo A.length rows' v' ∧ Red A.length rows' ∧ rows'.length ≤ 64) ∧ ∀ c, c < lo → c ≠ e → σ'.get c = σm.get c := by
  intro suf
  induction suf with
  | nil =>
    intro pre rows v σ hp hE hR hrl hk
    have hll : len = pre.length := by rw [hlen, hp]; simp
    subst hll
    refine ⟨σ, ?_, fun rows' h => ?_, hk⟩
    · have kq : cellsAt σ (.ptr q 0) 1 = some [.sl bm 0 M M] := by simp [cellsAt, (hk q hq1 hq2).trans hq, getCells, takeN, dropN]
      have hr : Row σ bm (nints (mks A o M)) := by
        obtain ⟨z, h1, _⟩ := hrm
        exact ⟨z, (hk bm hb1 hb2).trans h1, Nat.lt_of_lt_of_le hb1 hE.2.1⟩
      have hrd := hr.read (mks_get A o hW)
      have hWi : (wanted : Int) < M := by omega
      simp only [show seqs A.length A o [] = [] from rfl, addAll, bhR]
      rw [fi115]
      rw [xl115_1]
      simp only [B115_1, b115, Try.f115, Option.getD, fstC, sndC, bodyC, thnC, elsC]
      simp [xI_seq, xI_region, xI_ret, regA, regOps, runOps, opStep, wantedA, opA, evo, evos, calleeA, lk, nif_eq, putE, paramsE, valS, val2, keepE, restrict, finA, resA, binA, binInt, ofConst, ofConst1, loadA, TK.isAgg, asVar, unA, builtinA, lenOpA, lenA, ileb_cast, ileb_eq, ieqb_dec, indexAddrA, inB_dec, evPairs, storeA, AV.cellsOf, pairsOf, xI_nil, binBool, gcE, evOpt, xI_block, xI_loopH, xI_condM, xI_exitM, xI_skip, xI_blk, exitA, ty2, ty3, ty4, ty33, ty41, ty74, ty76, ty127, eK115_0_0, eK115_1_2]
      simp only [R115_1_2, b115, Try.f115, Option.getD, fstC, sndC, bodyC, thnC, elsC]
      simp [xI_seq, xI_region, xI_ret, regA, regOps, runOps, opStep, wantedA, opA, evo, evos, calleeA, lk, nif_eq, putE, paramsE, valS, val2, keepE, restrict, finA, resA, binA, binInt, ofConst, ofConst1, loadA, TK.isAgg, asVar, unA, builtinA, lenOpA, lenA, ileb_cast, ileb_eq, ieqb_dec, indexAddrA, inB_dec, evPairs, storeA, AV.cellsOf, pairsOf, xI_nil, binBool, gcE, evOpt, xI_block, xI_loopH, xI_condM, xI_exitM, xI_skip, xI_blk, exitA, ty2, ty3, ty4, ty33, ty41, ty74, ty76, ty127, eK115_0_0, eK115_1_2, ty33, ty2, kq, hrd, hW, hWi]
    · simp only [show seqs A.length A o [] = [] from rfl, addAll] at h
      cases h
      exact ⟨v, hE, hR, by omega⟩
  | cons x suf ih =>
    intro pre rows v σ hp hE hR hrl hk
    obtain ⟨a, b⟩ := x
    have hll : len = pre.length + (suf.length + 1) := by rw [hlen, hp]; simp
    have hab := hS (a, b) (by simp [hp])
    have haM := hM (a, b) (by simp [hp])
    simp only at hab haM
    have hg : (npairs S)[pre.length]? = some ((a : Int), (b : Int)) := npairs_get (by simp [hp])
    obtain ⟨q2, _, _⟩ := pairs_get hg
    have k2 : ∀ σ, cellsAt σ (.lp (pairs (npairs S)) (pre.length * 2)) 2 = some [.int .i64 a, .int .i64 b] := fun σ => q2
    obtain ⟨σ1, s1, d0, d1, o1⟩ := boxed2o σ (.int .i64 0) (.int .i64 0) (.int .i64 a) (.int .i64 b) rfl
    have hE1 := hE.old o1
    have hk1 : ∀ c, c < lo → c ≠ e → σ1.get c = σm.get c := fun c hc hce => (o1.2 c (Nat.lt_of_lt_of_le hc hE.2.1)).trans (hk c hc hce)
    have kq : cellsAt σ1 (.ptr q 0) 1 = some [.sl bm 0 M M] := by simp [cellsAt, (hk1 q hq1 hq2).trans hq, getCells, takeN, dropN]
    have hr : Row σ1 bm (nints (mks A o M)) := by
      obtain ⟨z, h1, _⟩ := hrm
      exact ⟨z, (hk1 bm hb1 hb2).trans h1, Nat.lt_of_lt_of_le hb1 hE1.2.1⟩
    have hrd := hr.read (mks_get A o haM)
    have haMi : (a : Int) < M := by omega
    have hmk := mk_lt hA ho a
    have hlt : ¬ len ≤ pre.length := by omega
    have hlt2 : pre.length < len := by omega
    have hw := wrapS (n := pre.length) (by omega)
    rw [show seqs A.length A o ((a, b) :: suf) = eqn A.length (mk A o a) b :: seqs A.length A o suf from rfl, addAll_cons]
    have hle : rows.length ≤ 100000 := by omega
    cases ha : add A.length rows (eqn A.length (mk A o a) b) with
    | none =>
      have hC := c107n A.length h16 e lo rows v σ1 hE1 hR.ok hle (mk A o a) b hmk hab.2 ha
      refine ⟨σ1, ?_, fun rows' h => by simp at h, hk1⟩
      simp only [bhR]
      generalize mk A o a = z at *
      rw [fi115]
      rw [xl115_1]
      simp only [B115_1, b115, Try.f115, Option.getD, fstC, sndC, bodyC, thnC, elsC]
      simp [xI_seq, xI_region, xI_ret, regA, regOps, runOps, opStep, wantedA, opA, evo, evos, calleeA, lk, nif_eq, putE, paramsE, valS, val2, keepE, restrict, finA, resA, binA, binInt, ofConst, ofConst1, loadA, TK.isAgg, asVar, unA, builtinA, lenOpA, lenA, ileb_cast, ileb_eq, ieqb_dec, indexAddrA, inB_dec, evPairs, storeA, AV.cellsOf, pairsOf, xI_nil, binBool, gcE, evOpt, xI_block, xI_loopH, xI_condM, xI_exitM, xI_skip, xI_blk, exitA, ty2, ty3, ty4, ty33, ty41, ty74, ty76, ty127, eK115_0_0, eK115_1_2, fieldAddrA, allOne, AV.one, ty2, ty33, ty41, ty74, ty76, hlt, hlt2, hw, k2, s1, d0, d1, kq, hrd, haM, haMi, hC]
    | some rows1 =>
      obtain ⟨σ2, v2, hC, hE2, hn2, hu2⟩ := c107y A.length h16 e lo rows rows1 v σ1 hE1 hR.ok hle (mk A o a) b hmk hab.2 ha
      obtain ⟨hR1, hl1⟩ := red_step ha hR (eqn_lt hmk hab.2)
      obtain ⟨σ', h1, h2, h3⟩ := ih (pre ++ [(a, b)]) rows1 v2 σ2 (by simp [hp]) hE2 hR1 (by simp; omega) (fun c hc hce => (hu2 c hc hce).trans (hk1 c hc hce))
      refine ⟨σ', ?_, h2, h3⟩
      simp only [show (pre ++ [(a, b)]).length = pre.length + 1 by simp, Int.natCast_add, show ((1 : Nat) : Int) = 1 from rfl] at h1
      simp only
      generalize bhR e wanted (addAll A.length rows1 (seqs A.length A o suf)) (mk A o wanted) = res at *
      generalize mk A o a = z at *
      rw [fi115] at h1 ⊢
      rw [xl115_1]
      simp only [B115_1, b115, Try.f115, Option.getD, fstC, sndC, bodyC, thnC, elsC]
      simp [xI_seq, xI_region, xI_ret, regA, regOps, runOps, opStep, wantedA, opA, evo, evos, calleeA, lk, nif_eq, putE, paramsE, valS, val2, keepE, restrict, finA, resA, binA, binInt, ofConst, ofConst1, loadA, TK.isAgg, asVar, unA, builtinA, lenOpA, lenA, ileb_cast, ileb_eq, ieqb_dec, indexAddrA, inB_dec, evPairs, storeA, AV.cellsOf, pairsOf, xI_nil, binBool, gcE, evOpt, xI_block, xI_loopH, xI_condM, xI_exitM, xI_skip, xI_blk, exitA, ty2, ty3, ty4, ty33, ty41, ty74, ty76, ty127, eK115_0_0, eK115_1_2, fieldAddrA, allOne, AV.one, ty2, ty33, ty41, ty74, ty76, hlt, hlt2, hw, k2, s1, d0, d1, kq, hrd, haM, haMi, hC]
      exact h1
set_option maxHeartbeats 1000000 in
theorem r115 (A : List Nat) (o : Nat) (h16 : A.length ≤ 16) (hA : ∀ r ∈ A, r < 2 ^ A.length) (ho : o < 2 ^ A.length) (S : List (Nat × Nat)) (hS : ∀ x ∈ S, x.1 ≤ 10000 ∧ x.2 ≤ 1) (hl : S.length ≤ 64) (wanted : Nat) (hW : wanted ≤ 10000) (σ : St) :
    ∃ σ' e lo, callI TT 115 [.agg (lin A.length (nints A) o), .lst S.length (pairs (npairs S)), .int .i64 wanted] σ = some (bhR e wanted (addAll A.length [] (seqs A.length A o S)) (mk A o wanted), σ') ∧
      (∀ rows', addAll A.length [] (seqs A.length A o S) = some rows' → ∃ v', ES σ' e lo A.length rows' v' ∧ Red A.length rows' ∧ rows'.length ≤ 64) ∧ ∀ c, c < σ.n → σ'.get c = σ.get c := by
  have hA62 : ∀ r ∈ A, r < 2 ^ 62 := fun r hr => w62 h16 (hA r hr)
  -- the machine in a cell of its own
  obtain ⟨σ1, hσ1⟩ : ∃ σ1, σ.push ⟨lin A.length (nints A) o, 3, false⟩ = σ1 := ⟨_, rfl⟩
  have n1 : σ1.n = σ.n + 1 := by subst hσ1; rfl
  have g1 : σ1.get σ.n = some ⟨lin A.length (nints A) o, 3, false⟩ := by subst hσ1; exact get_push_same
  have o1 : Old σ σ1 := by subst hσ1; exact Old.push
  -- the last output that is asked for
  obtain ⟨σ2, h2, o2⟩ := l115a S wanted σ.n S.length rfl hl S [] wanted σ1 rfl
  have g2 : σ2.get σ.n = some ⟨lin A.length (nints A) o, 3, false⟩ := (o2.2 σ.n (by omega)).trans g1
  have n2 := o2.1
  obtain ⟨last, hlast⟩ : ∃ last, last = lastS wanted S := ⟨_, rfl⟩
  obtain ⟨hg1, hg2⟩ := lastS_ge S wanted
  have hg3 := lastS_le S wanted hW (fun x hx => (hS x hx).1)
  rw [← hlast] at hg1 hg2 hg3 h2
  -- the cell of the masks
  obtain ⟨σ3, hσ3⟩ : ∃ σ3, σ2.push ⟨ints [], 1, false⟩ = σ3 := ⟨_, rfl⟩
  have n3 : σ3.n = σ2.n + 1 := by subst hσ3; rfl
  have r3 : Row σ3 σ2.n (nints (mks A o 0)) := by subst hσ3; exact Row.push
  have o3 : Old σ2 σ3 := by subst hσ3; exact Old.push
  obtain ⟨σ4, s4, g4, o4, n4⟩ := boxed1o σ3 .nilS (.sl σ2.n 0 0 0) rfl
  have r4 := r3.old o4
  have p4 : σ4.get σ.n = some ⟨lin A.length (nints A) o, 3, false⟩ := (o4.2 σ.n (by omega)).trans ((o3.2 σ.n (by omega)).trans g2)
  -- the machine once more
  obtain ⟨σ5, hσ5⟩ : ∃ σ5, σ4.push ⟨lin A.length (nints A) o, 3, false⟩ = σ5 := ⟨_, rfl⟩
  have n5 : σ5.n = σ4.n + 1 := by subst hσ5; rfl
  have g5 : σ5.get σ4.n = some ⟨lin A.length (nints A) o, 3, false⟩ := by subst hσ5; exact get_push_same
  have o5 : Old σ4 σ5 := by subst hσ5; exact Old.push
  have hloop := l105 A o (last + 1) h16 hA62 (w62 h16 ho) (by omega) 141 [.ptr σ3.n 0] (fun i τ => ∃ b, τ.get σ3.n = some ⟨[.sl b 0 i i], 1, false⟩ ∧ σ3.n ≠ b ∧ σ2.n ≤ b ∧ b ≠ σ4.n ∧ Row τ b (nints (mks A o i)) ∧ σ5.n ≤ τ.n ∧ τ.get σ4.n = some ⟨lin A.length (nints A) o, 3, false⟩ ∧ ∀ c, c < σ2.n → τ.get c = σ5.get c) σ4.n
    (fun i τ ⟨b, _, _, _, _, _, _, g, _⟩ => by simp [cellsAt, g, lin, getCells, takeN, dropN, nints_length])
    (fun i τ hi ⟨b, a1, a2, a3, a4, a5, a6, a7, a8⟩ => by
      obtain ⟨τ', b', c1, c2, c3, c4, c5, c6, c7⟩ := c141 A o i (by omega) τ σ3.n b a1 (by omega) a2 a5 i
      refine ⟨_, τ', c1, b', c2, c3, by omega, by omega, c4, by omega, ?_, fun c hc => ?_⟩
      · rw [c7 σ4.n (by omega) (by omega) (fun h => a4 h.symm)]; exact a7
      · rw [c7 c (by omega) (by omega) (by omega)]; exact a8 c hc)
  obtain ⟨σ6, h6, bm, q1, q2, q3, q4, q5, q6, q7, q8⟩ := hloop (last + 1) 0 σ5 (by omega) ⟨σ2.n, by rw [o5.2 σ3.n (by omega)]; exact g4, by omega, by omega, by omega, r4.old o5, by omega, g5, fun c _ => rfl⟩
  simp only [show mk A o 0 = o from rfl, Int.natCast_zero, show ((0 : Nat) : Int) = 0 from rfl] at h6
  have hold : ∀ c, c < σ2.n → σ6.get c = σ2.get c := fun c hc => (q8 c hc).trans ((o5.2 c (by omega)).trans ((o4.2 c (by omega)).trans (o3.2 c hc)))
  have p6 : σ6.get σ.n = some ⟨lin A.length (nints A) o, 3, false⟩ := (hold σ.n (by omega)).trans g2
  have qb := q5.lt
  -- the equations
  obtain ⟨σ7, hσ7⟩ : ∃ σ7, σ6.push ⟨[.int .i64 A.length, .nilS], 2, false⟩ = σ7 := ⟨_, rfl⟩
  have n7 : σ7.n = σ6.n + 1 := by subst hσ7; rfl
  have o7 : Old σ6 σ7 := by subst hσ7; exact Old.push
  have hE7 : ES σ7 σ6.n σ7.n A.length [] .nilS := ⟨by omega, Nat.le_refl _, by subst hσ7; exact get_push_same, .inl ⟨rfl, rfl⟩⟩
  obtain ⟨σ', h8, h9, h10⟩ := l115b A o h16 hA ho S hS S.length rfl hl wanted (last + 1) (fun x hx => by have := hg2 x hx; omega) (by omega) σ6.n σ7.n σ3.n bm σ7 ((o7.2 σ3.n (by omega)).trans q1) (by omega) (by omega) (by omega) (by omega) (q5.old o7) S [] [] .nilS σ7 rfl hE7 (red_nil _) (Nat.le_refl _) (fun _ _ _ => rfl)
  refine ⟨σ', σ6.n, σ7.n, ?_, h9, fun c hc => ?_⟩
  · have hC : callI TT 105 [.agg (lin A.length (nints A) o), .int .i64 ((last : Int) + 1), .fn 141 [] [.ptr σ3.n 0]] σ4 = some (.tup [], σ6) := by
      have hk5 : cellsAt σ5 (.ptr σ4.n 2) 1 = some [.int .i64 o] := by simp [cellsAt, g5, lin, getCells, takeN, dropN]
      simp only [Int.natCast_add, show ((1 : Nat) : Int) = 1 from rfl] at h6
      rw [cI_0 fn105 rfl md105, ← h6, fi105]
      simp only [lin] at hσ5 ⊢
      simp [xI_seq, xI_region, xI_ret, regA, regOps, runOps, opStep, wantedA, opA, evo, evos, calleeA, lk, nif_eq, putE, paramsE, valS, val2, keepE, restrict, finA, resA, binA, binInt, ofConst, ofConst1, loadA, TK.isAgg, asVar, unA, builtinA, lenOpA, lenA, ileb_cast, ileb_eq, ieqb_dec, indexAddrA, inB_dec, evPairs, storeA, AV.cellsOf, pairsOf, xI_nil, binBool, gcE, evOpt, xI_block, xI_loopH, xI_condM, xI_exitM, xI_skip, xI_blk, exitA, ty2, ty33, ty41, fieldAddrA, allOne, AV.one, ty2, ty33, ty41, hσ5, hk5]
      rfl
    have k43 : cellsAt σ4 (.ptr σ.n 0) 3 = some (lin A.length (nints A) o) := by simp [cellsAt, p4, lin, getCells, takeN, dropN]
    have k6 : cellsAt σ6 (.ptr σ.n 0) 1 = some [.int .i64 A.length] := by simp [cellsAt, p6, lin, getCells, takeN, dropN]
    have hw := wrapS (n := last) (by omega)
    have hwi : wrapA .i64 ((A.length : Nat) : Int) = ((A.length : Nat) : Int) := n_wrap (by omega)
    simp only [List.length_nil, Int.natCast_zero, show ((0 : Nat) : Int) = 0 from rfl] at h2 h8
    rw [cI_0 fn115 rfl md115, ← h8]
    rw [fi115] at h2 ⊢
    simp only [lin] at hσ1 k43 hC ⊢
    simp [xI_seq, xI_region, xI_ret, regA, regOps, runOps, opStep, wantedA, opA, evo, evos, calleeA, lk, nif_eq, putE, paramsE, valS, val2, keepE, restrict, finA, resA, binA, binInt, ofConst, ofConst1, loadA, TK.isAgg, asVar, unA, builtinA, lenOpA, lenA, ileb_cast, ileb_eq, ieqb_dec, indexAddrA, inB_dec, evPairs, storeA, AV.cellsOf, pairsOf, xI_nil, binBool, gcE, evOpt, xI_block, xI_loopH, xI_condM, xI_exitM, xI_skip, xI_blk, exitA, ty2, ty3, ty4, ty33, ty41, ty74, ty76, ty127, eK115_0_0, eK115_1_2, allOne, AV.one, ty74, ty41, hσ1]
    refine h2.trans ?_
    simp only [R115_0_0, b115, Try.f115, Option.getD, fstC, sndC, bodyC, thnC, elsC]
    simp [xI_seq, xI_region, xI_ret, regA, regOps, runOps, opStep, wantedA, opA, evo, evos, calleeA, lk, nif_eq, putE, paramsE, valS, val2, keepE, restrict, finA, resA, binA, binInt, ofConst, ofConst1, loadA, TK.isAgg, asVar, unA, builtinA, lenOpA, lenA, ileb_cast, ileb_eq, ieqb_dec, indexAddrA, inB_dec, evPairs, storeA, AV.cellsOf, pairsOf, xI_nil, binBool, gcE, evOpt, xI_block, xI_loopH, xI_condM, xI_exitM, xI_skip, xI_blk, exitA, ty2, ty3, ty4, ty33, ty41, ty74, ty76, ty127, eK115_0_0, eK115_1_2, fieldAddrA, allOne, AV.one, ty2, ty3, ty33, ty41, ty127, buildA, sizesOf, fillA, putCells, bn0, hσ3, s4, k43, hw, hC, k6, hwi, hσ7]
    rfl
  · rw [h10 c (by omega) (by omega), o7.2 c (by omega), hold c (by omega), o2.2 c (by omega), o1.2 c hc]

end Go.Proofs.Ytonnbgjbohbibaa
