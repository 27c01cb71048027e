/- States behind what is seen: contracts, laws, counts. Nothing is claimed here; no condition. -/
import Derived.Test.YtonnbgjbohbibaaEw
import Derived.Test.YtonnbgjbohbibaaGa
import Derived.Test.YtonnbgjbohbibaaXp
namespace Go.Proofs.Ytonnbgjbohbibaa
open Go Go.Abs
set_option linter.unusedSimpArgs false
set_option linter.unusedVariables false
open Go.Wd
theorem c140 (a b : Int) (σ : St) : callI TT 140 [.agg [.int .i64 a, .int .i64 b]] σ = some (.bool (!sen1 (a, b)), σ) := by
  refine (FnV.mk (args' := [.agg [.int .i64 a, .int .i64 b]]) fn140 rfl md140 ?_ (fun _ => rfl) rfl) σ _ rfl
  obtain ⟨σ0, hσ⟩ : ∃ σ0, (⟨[], 0⟩ : St).push ⟨[.int .i64 a, .int .i64 b], 2, false⟩ = σ0 := ⟨_, rfl⟩
  have k0 : cellsAt σ0 (.ptr 0 0) 1 = some [.int .i64 a] := by subst hσ; rfl
  have k1 : cellsAt σ0 (.ptr 0 1) 1 = some [.int .i64 b] := by subst hσ; rfl
  have h1 := c80 a 0 10000 σ0
  have h2 := c80 b 0 1 σ0
  rw [fi140]
  cases ha : inR a 0 10000 with
  | false =>
    rw [ha] at h1
    simp [xI_seq, xI_region, xI_ret, regA, regOps, runOps, opStep, wantedA, opA, evo, evos, calleeA, lk, nif_eq, putE, paramsE, valS, val2, keepE, restrict, finA, resA, binA, binInt, ofConst, ofConst1, loadA, TK.isAgg, asVar, unA, builtinA, lenOpA, lenA, ileb_cast, ileb_eq, ieqb_dec, indexAddrA, inB_dec, evPairs, storeA, AV.cellsOf, pairsOf, xI_nil, binBool, gcE, evOpt, xI_block, xI_loopH, xI_condM, xI_exitM, xI_skip, xI_blk, exitA, ty2, ty4, ty76, fieldAddrA, allOne, AV.one, n_push, ty2, ty76, hσ, k0, k1, h1]
    simp [sen1, ha]
  | true =>
    rw [ha] at h1
    simp [xI_seq, xI_region, xI_ret, regA, regOps, runOps, opStep, wantedA, opA, evo, evos, calleeA, lk, nif_eq, putE, paramsE, valS, val2, keepE, restrict, finA, resA, binA, binInt, ofConst, ofConst1, loadA, TK.isAgg, asVar, unA, builtinA, lenOpA, lenA, ileb_cast, ileb_eq, ieqb_dec, indexAddrA, inB_dec, evPairs, storeA, AV.cellsOf, pairsOf, xI_nil, binBool, gcE, evOpt, xI_block, xI_loopH, xI_condM, xI_exitM, xI_skip, xI_blk, exitA, ty2, ty4, ty76, fieldAddrA, allOne, AV.one, n_push, ty2, ty76, hσ, k0, k1, h1, h2]
    simp [sen1, ha]

noncomputable def b145 : Code := Try.f145.body.getD .skip
noncomputable def B145_0 : Code := (bodyC (bodyC (sndC (fstC (sndC b145)))))
noncomputable def K145_0 : List It := .lp B145_0 :: .blk 0 :: .code (sndC (sndC b145)) :: []
theorem xl145_0 {fi : FI} {env : Env} {σ : St} : exI TT fi K145_0 env σ = exI TT fi (.code B145_0 :: K145_0) env σ := by unfold K145_0; exact xI_lp
noncomputable def R145_0_0 : List It := .code (sndC (sndC b145)) :: []
theorem eK145_0_0 : exitA 0 K145_0 = some R145_0_0 := rfl
theorem l145 (l : List (Int × Int)) (len : Nat) (hlen : len = l.length) (hs : len < 1000000000000) (σ : St) : ∀ (suf pre : List (Int × Int)), l = pre ++ suf →
    ∃ r : Int, exI TT (FI.of Try.f145 (TT.an 145)) K145_0 [(0, .lst len (pairs l)), (1, .fn 140 [] []), (7, .int .i64 len), (8, .int .i64 pre.length)] σ = some (.int .i64 r, σ) ∧ decide (0 ≤ r) = !suf.all sen1 := by
  intro suf
  induction suf with
  | nil =>
    intro pre hl
    refine ⟨-1, ?_, by simp⟩
    have hl : len = pre.length := by rw [hlen, hl]; simp
    subst hl
    rw [fi145]
    rw [xl145_0]
    simp only [B145_0, b145, Try.f145, Option.getD, fstC, sndC, bodyC, thnC, elsC]
    simp [xI_seq, xI_region, xI_ret, regA, regOps, runOps, opStep, wantedA, opA, evo, evos, calleeA, lk, nif_eq, putE, paramsE, valS, val2, keepE, restrict, finA, resA, binA, binInt, ofConst, ofConst1, loadA, TK.isAgg, asVar, unA, builtinA, lenOpA, lenA, ileb_cast, ileb_eq, ieqb_dec, indexAddrA, inB_dec, evPairs, storeA, AV.cellsOf, pairsOf, xI_nil, binBool, gcE, evOpt, xI_block, xI_loopH, xI_condM, xI_exitM, xI_skip, xI_blk, exitA, ty3, ty74, ty76, eK145_0_0]
    simp only [R145_0_0, b145, Try.f145, Option.getD, fstC, sndC, bodyC, thnC, elsC]
    simp [xI_seq, xI_region, xI_ret, regA, regOps, runOps, opStep, wantedA, opA, evo, evos, calleeA, lk, nif_eq, putE, paramsE, valS, val2, keepE, restrict, finA, resA, binA, binInt, ofConst, ofConst1, loadA, TK.isAgg, asVar, unA, builtinA, lenOpA, lenA, ileb_cast, ileb_eq, ieqb_dec, indexAddrA, inB_dec, evPairs, storeA, AV.cellsOf, pairsOf, xI_nil, binBool, gcE, evOpt, xI_block, xI_loopH, xI_condM, xI_exitM, xI_skip, xI_blk, exitA, ty3, ty74, ty76, eK145_0_0]
  | cons x suf ih =>
    intro pre hl
    obtain ⟨a, b⟩ := x
    have hll : len = pre.length + (suf.length + 1) := by rw [hlen, hl]; simp
    have hg : l[pre.length]? = some (a, b) := by simp [hl]
    obtain ⟨q2, _, _⟩ := pairs_get hg
    have k2 : cellsAt σ (.lp (pairs l) (pre.length * 2)) 2 = some [.int .i64 a, .int .i64 b] := q2
    obtain ⟨r, h1, h2⟩ := ih (pre ++ [(a, b)]) (by simp [hl])
    have hlt : ¬ len ≤ pre.length := by omega
    have hlt2 : pre.length < len := by omega
    have hw := wrapS (n := pre.length) (by omega)
    have hc := c140 a b σ
    simp only [show (pre ++ [(a, b)]).length = pre.length + 1 by simp, Int.natCast_add, show ((1 : Nat) : Int) = 1 from rfl] at h1
    cases hin : sen1 (a, b) with
    | true =>
      rw [hin] at hc
      refine ⟨r, ?_, by rw [h2]; simp [hin]⟩
      rw [fi145] at h1 ⊢
      rw [xl145_0]
      simp only [B145_0, b145, Try.f145, Option.getD, fstC, sndC, bodyC, thnC, elsC]
      simp [xI_seq, xI_region, xI_ret, regA, regOps, runOps, opStep, wantedA, opA, evo, evos, calleeA, lk, nif_eq, putE, paramsE, valS, val2, keepE, restrict, finA, resA, binA, binInt, ofConst, ofConst1, loadA, TK.isAgg, asVar, unA, builtinA, lenOpA, lenA, ileb_cast, ileb_eq, ieqb_dec, indexAddrA, inB_dec, evPairs, storeA, AV.cellsOf, pairsOf, xI_nil, binBool, gcE, evOpt, xI_block, xI_loopH, xI_condM, xI_exitM, xI_skip, xI_blk, exitA, ty3, ty74, ty76, eK145_0_0, hw, hlt, hlt2, k2, hc, ty74, ty76]
      exact h1
    | false =>
      rw [hin] at hc
      refine ⟨pre.length, ?_, by simp [hin]⟩
      rw [fi145]
      rw [xl145_0]
      simp only [B145_0, b145, Try.f145, Option.getD, fstC, sndC, bodyC, thnC, elsC]
      simp [xI_seq, xI_region, xI_ret, regA, regOps, runOps, opStep, wantedA, opA, evo, evos, calleeA, lk, nif_eq, putE, paramsE, valS, val2, keepE, restrict, finA, resA, binA, binInt, ofConst, ofConst1, loadA, TK.isAgg, asVar, unA, builtinA, lenOpA, lenA, ileb_cast, ileb_eq, ieqb_dec, indexAddrA, inB_dec, evPairs, storeA, AV.cellsOf, pairsOf, xI_nil, binBool, gcE, evOpt, xI_block, xI_loopH, xI_condM, xI_exitM, xI_skip, xI_blk, exitA, ty3, ty74, ty76, eK145_0_0, hw, hlt, hlt2, k2, hc, ty74, ty76]

theorem c139 (l : List (Int × Int)) (hs : l.length < 1000000000000) (σ : St) : callI TT 139 [.lst l.length (pairs l), .fn 140 [] []] σ = some (.bool (!l.all sen1), σ) := by
  obtain ⟨r, h1, h2⟩ := l145 l l.length rfl hs σ l [] rfl
  have hc : callI TT 145 [.lst l.length (pairs l), .fn 140 [] []] σ = some (.int .i64 r, σ) := by
    rw [cI_0 fn145 rfl md145, ← h1, fi145]
    simp [xI_seq, xI_region, xI_ret, regA, regOps, runOps, opStep, wantedA, opA, evo, evos, calleeA, lk, nif_eq, putE, paramsE, valS, val2, keepE, restrict, finA, resA, binA, binInt, ofConst, ofConst1, loadA, TK.isAgg, asVar, unA, builtinA, lenOpA, lenA, ileb_cast, ileb_eq, ieqb_dec, indexAddrA, inB_dec, evPairs, storeA, AV.cellsOf, pairsOf, xI_nil, binBool, gcE, evOpt, xI_block, xI_loopH, xI_condM, xI_exitM, xI_skip, xI_blk, exitA, ty3, ty74, ty76, eK145_0_0]
    rfl
  rw [cI_0 fn139 rfl md139, fi139]
  rw [← h2]
  simp [xI_seq, xI_region, xI_ret, regA, regOps, runOps, opStep, wantedA, opA, evo, evos, calleeA, lk, nif_eq, putE, paramsE, valS, val2, keepE, restrict, finA, resA, binA, binInt, ofConst, ofConst1, loadA, TK.isAgg, asVar, unA, builtinA, lenOpA, lenA, ileb_cast, ileb_eq, ieqb_dec, indexAddrA, inB_dec, evPairs, storeA, AV.cellsOf, pairsOf, xI_nil, binBool, gcE, evOpt, xI_block, xI_loopH, xI_condM, xI_exitM, xI_skip, xI_blk, exitA, ty3, hc]

theorem v114 (l : List (Int × Int)) (hs : l.length < 1000000000000) : FnV TT 114 [.lst l.length (pairs l)] (.bool (senOk l)) := by
  refine FnV.mk fn114 rfl md114 ⟨⟨[], 0⟩, ?_⟩ (fun _ => rfl) rfl
  have hc := c139 l hs ⟨[], 0⟩
  rw [fi114]
  by_cases h1 : l.length ≤ 64
  · have h2 : (l.length : Int) ≤ 64 := by omega
    rw [show senOk l = l.all sen1 by simp [senOk, h1]]
    generalize l.all sen1 = b at *
    generalize l.length = n at *
    simp [xI_seq, xI_region, xI_ret, regA, regOps, runOps, opStep, wantedA, opA, evo, evos, calleeA, lk, nif_eq, putE, paramsE, valS, val2, keepE, restrict, finA, resA, binA, binInt, ofConst, ofConst1, loadA, TK.isAgg, asVar, unA, builtinA, lenOpA, lenA, ileb_cast, ileb_eq, ieqb_dec, indexAddrA, inB_dec, evPairs, storeA, AV.cellsOf, pairsOf, xI_nil, binBool, gcE, evOpt, xI_block, xI_loopH, xI_condM, xI_exitM, xI_skip, xI_blk, exitA, ty3, ty4, ty74, ty76, h1, h2, hc]
  · have h2 : ¬ (l.length : Int) ≤ 64 := by omega
    rw [show senOk l = false by simp [senOk, h1]]
    generalize l.length = n at *
    simp [xI_seq, xI_region, xI_ret, regA, regOps, runOps, opStep, wantedA, opA, evo, evos, calleeA, lk, nif_eq, putE, paramsE, valS, val2, keepE, restrict, finA, resA, binA, binInt, ofConst, ofConst1, loadA, TK.isAgg, asVar, unA, builtinA, lenOpA, lenA, ileb_cast, ileb_eq, ieqb_dec, indexAddrA, inB_dec, evPairs, storeA, AV.cellsOf, pairsOf, xI_nil, binBool, gcE, evOpt, xI_block, xI_loopH, xI_condM, xI_exitM, xI_skip, xI_blk, exitA, ty3, ty4, ty74, ty76, h1, h2]

theorem ES.old {σ σ' : St} {e lo w : Nat} {rows : List Nat} {v : AV} (h : ES σ e lo w rows v) (k : Old σ σ') : ES σ' e lo w rows v := by
  obtain ⟨h1, h2, h3, h4⟩ := h
  refine ⟨Nat.lt_of_lt_of_le h1 k.1, Nat.le_trans h2 k.1, (k.2 e h1).trans h3, ?_⟩
  rcases h4 with h4 | ⟨b, b1, b2, b3, b4⟩
  · exact .inl h4
  · exact .inr ⟨b, b1, b2, b3, b4.old k⟩
theorem boxed2o (σ : St) (a b x y : AV) (h : allOne [x, y] = true) : ∃ σ', storeCellsA (σ.push ⟨[a, b], 2, false⟩) σ.n 0 [x, y] = some σ' ∧ cellsAt σ' (.ptr σ.n 0) 1 = some [x] ∧ cellsAt σ' (.ptr σ.n 1) 1 = some [y] ∧ Old σ σ' := by
  refine ⟨(σ.push ⟨[a, b], 2, false⟩).set σ.n ⟨[x, y], 2, false⟩, ?_, ?_, ?_, Nat.le_succ _, fun c hc => ?_⟩
  · simp [storeCellsA, get_push_same, h, putN, overN]
  · simp [cellsAt, get_set_eq (get_push_same), getCells, takeN, dropN]
  · simp [cellsAt, get_set_eq (get_push_same), getCells, takeN, dropN]
  · rw [get_set_ne (by omega), get_push_lt hc]
theorem boxed1o (σ : St) (a x : AV) (h : allOne [x] = true) : ∃ σ', storeCellsA (σ.push ⟨[a], 1, false⟩) σ.n 0 [x] = some σ' ∧ σ'.get σ.n = some ⟨[x], 1, false⟩ ∧ Old σ σ' ∧ σ'.n = σ.n + 1 := by
  refine ⟨(σ.push ⟨[a], 1, false⟩).set σ.n ⟨[x], 1, false⟩, ?_, get_set_eq get_push_same, ⟨Nat.le_succ _, fun c hc => ?_⟩, rfl⟩
  · simp [storeCellsA, get_push_same, h, putN, overN]
  · rw [get_set_ne (by omega), get_push_lt hc]
/-- The last output that is asked for. -/
def lastS : Nat → List (Nat × Nat) → Nat
  | m, [] => m
  | m, x :: r => lastS (max m x.1) r
theorem lastS_ge : ∀ (l : List (Nat × Nat)) (m : Nat), m ≤ lastS m l ∧ ∀ x ∈ l, x.1 ≤ lastS m l
  | [], m => ⟨Nat.le_refl _, by simp⟩
  | y :: r, m => by
    obtain ⟨h1, h2⟩ := lastS_ge r (max m y.1)
    refine ⟨by simp only [lastS]; omega, fun x hx => ?_⟩
    rcases List.mem_cons.1 hx with rfl | hx
    · simp only [lastS]; omega
    · exact h2 x hx
theorem lastS_le : ∀ (l : List (Nat × Nat)) (m : Nat), m ≤ 10000 → (∀ x ∈ l, x.1 ≤ 10000) → lastS m l ≤ 10000
  | [], _, h, _ => h
  | y :: r, m, h, hx => lastS_le r _ (by have := hx y (by simp); omega) fun x h => hx x (by simp [h])
theorem mks_get (A : List Nat) (o : Nat) {i n : Nat} (h : i < n) : (nints (mks A o n))[i]? = some ((mk A o i : Nat) : Int) := nints_get (by simp [mks, h])

theorem c141 (A : List Nat) (o i : Nat) (hi : i ≤ 20000) (σ : St) (q b : Nat) (hq : σ.get q = some ⟨[.sl b 0 i i], 1, false⟩) (hqn : q < σ.n) (hqb : q ≠ b) (hr : Row σ b (nints (mks A o i))) (at_ : Int) :
    ∃ σ' b', callI TT 141 [.int .i64 at_, .int .i64 (mk A o i : Nat), .ptr q 0] σ = some (.tup [], σ') ∧ σ'.get q = some ⟨[.sl b' 0 (i + 1) (i + 1)], 1, false⟩ ∧ q ≠ b' ∧ Row σ' b' (nints (mks A o (i + 1))) ∧ σ.n ≤ b' ∧ σ.n ≤ σ'.n ∧ ∀ c, c < σ.n → c ≠ q → c ≠ b → σ'.get c = σ.get c := by
  obtain ⟨σ1, a1, r1, n1, u1⟩ := nints_append_row (x := mk A o i) ty33 ty2 hr (n := i) (mks_length _ _ _).symm (by omega)
  rw [← mks_succ] at r1
  have hq1 : σ1.get q = some ⟨[.sl b 0 i i], 1, false⟩ := (u1 q hqb hqn).trans hq
  refine ⟨σ1.set q ⟨[.sl (σ.n + 1) 0 (i + 1) (i + 1)], 1, false⟩, σ.n + 1, ?_, get_set_eq hq1, by omega, r1.keep (Nat.le_refl _) (get_set_ne (by omega)), by omega, by rw [n_set]; omega, fun c hc hcq hcb => ?_⟩
  · have k0 : cellsAt σ (.ptr q 0) 1 = some [.sl b 0 i i] := by simp [cellsAt, hq, getCells, takeN, dropN]
    have s1 : storeCellsA σ1 q 0 [.sl (σ.n + 1) 0 (i + 1) (i + 1)] = some (σ1.set q ⟨[.sl (σ.n + 1) 0 (i + 1) (i + 1)], 1, false⟩) := by simp [storeCellsA, hq1, allOne, AV.one, putN, overN]
    rw [cI_0 fn141 rfl md141, fi141]
    simp [xI_seq, xI_region, xI_ret, regA, regOps, runOps, opStep, wantedA, opA, evo, evos, calleeA, lk, nif_eq, putE, paramsE, valS, val2, keepE, restrict, finA, resA, binA, binInt, ofConst, ofConst1, loadA, TK.isAgg, asVar, unA, builtinA, lenOpA, lenA, ileb_cast, ileb_eq, ieqb_dec, indexAddrA, inB_dec, evPairs, storeA, AV.cellsOf, pairsOf, xI_nil, binBool, gcE, evOpt, xI_block, xI_loopH, xI_condM, xI_exitM, xI_skip, xI_blk, exitA, ty2, ty33, ty33, k0, bs1, a1, s1]
  · rw [get_set_ne (fun h => hcq h.symm)]; exact u1 c hcb hc

noncomputable def b115 : Code := Try.f115.body.getD .skip
noncomputable def B115_0 : Code := (bodyC (bodyC (sndC (fstC (sndC (sndC b115))))))
noncomputable def K115_0 : List It := .lp B115_0 :: .blk 0 :: .code (sndC (sndC (sndC b115))) :: []
theorem xl115_0 {fi : FI} {env : Env} {σ : St} : exI TT fi K115_0 env σ = exI TT fi (.code B115_0 :: K115_0) env σ := by unfold K115_0; exact xI_lp
noncomputable def R115_0_0 : List It := .code (sndC (sndC (sndC b115))) :: []
theorem eK115_0_0 : exitA 0 K115_0 = some R115_0_0 := rfl
noncomputable def B115_1 : Code := (bodyC (bodyC (sndC (fstC (sndC (sndC (sndC (sndC (sndC (sndC b115))))))))))
noncomputable def K115_1 : List It := .lp B115_1 :: .blk 2 :: .code (sndC (sndC (sndC (sndC (sndC (sndC (sndC b115))))))) :: []
theorem xl115_1 {fi : FI} {env : Env} {σ : St} : exI TT fi K115_1 env σ = exI TT fi (.code B115_1 :: K115_1) env σ := by unfold K115_1; exact xI_lp
noncomputable def R115_1_2 : List It := .code (sndC (sndC (sndC (sndC (sndC (sndC (sndC b115))))))) :: []
theorem eK115_1_2 : exitA 2 K115_1 = some R115_1_2 := rfl
theorem max_i (a b : Nat) : minmaxA true [.int .i64 (a : Int), .int .i64 (b : Int)] = some (.int .i64 ((max a b : Nat) : Int)) := by
  by_cases h : a < b
  · have h2 : max a b = b := Nat.max_eq_right (by omega)
    have h4 : (b : Int) > (a : Int) := by omega
    rw [h2]
    simp only [minmaxA, mmStep, if_true]
    rw [if_pos h4]
  · have h2 : max a b = a := Nat.max_eq_left (by omega)
    have h4 : ¬ (b : Int) > (a : Int) := by omega
    rw [h2]
    simp only [minmaxA, mmStep, if_true]
    rw [if_neg h4]
theorem l115a (S : List (Nat × Nat)) (wanted p : Nat) (len : Nat) (hlen : len = S.length) (hl : len ≤ 64) : ∀ (suf pre : List (Nat × Nat)) (last : Nat) (σ : St), S = pre ++ suf →
    ∃ σ', exI TT (FI.of Try.f115 (TT.an 115)) K115_0 [(1, .lst len (pairs (npairs S))), (2, .int .i64 wanted), (3, .ptr p 0), (9, .int .i64 last), (17, .lst len (pairs (npairs S))), (18, .int .i64 len), (19, .int .i64 pre.length)] σ =
      exI TT (FI.of Try.f115 (TT.an 115)) R115_0_0 [(1, .lst len (pairs (npairs S))), (2, .int .i64 wanted), (3, .ptr p 0), (9, .int .i64 (lastS last suf)), (17, .lst len (pairs (npairs S))), (18, .int .i64 len), (19, .int .i64 len), (20, .bool false)] σ' ∧ Old σ σ' := by
  intro suf
  induction suf with
  | nil =>
    intro pre last σ hp
    have hll : len = pre.length := by rw [hlen, hp]; simp
    subst hll
    refine ⟨σ, ?_, Old.refl σ⟩
    simp only [lastS]
    rw [fi115]
    rw [xl115_0]
    simp only [B115_0, b115, Try.f115, Option.getD, fstC, sndC, bodyC, thnC, elsC]
    simp [xI_seq, xI_region, xI_ret, regA, regOps, runOps, opStep, wantedA, opA, evo, evos, calleeA, lk, nif_eq, putE, paramsE, valS, val2, keepE, restrict, finA, resA, binA, binInt, ofConst, ofConst1, loadA, TK.isAgg, asVar, unA, builtinA, lenOpA, lenA, ileb_cast, ileb_eq, ieqb_dec, indexAddrA, inB_dec, evPairs, storeA, AV.cellsOf, pairsOf, xI_nil, binBool, gcE, evOpt, xI_block, xI_loopH, xI_condM, xI_exitM, xI_skip, xI_blk, exitA, ty2, ty3, ty4, ty33, ty41, ty74, ty76, ty127, eK115_0_0, eK115_1_2]
  | cons x suf ih =>
    intro pre last σ hp
    obtain ⟨a, b⟩ := x
    have hll : len = pre.length + (suf.length + 1) := by rw [hlen, hp]; simp
    have hg : (npairs S)[pre.length]? = some ((a : Int), (b : Int)) := npairs_get (by simp [hp])
    obtain ⟨q2, _, _⟩ := pairs_get hg
    have k2 : ∀ σ, cellsAt σ (.lp (pairs (npairs S)) (pre.length * 2)) 2 = some [.int .i64 a, .int .i64 b] := fun σ => q2
    obtain ⟨σ1, s1, d0, d1, o1⟩ := boxed2o σ (.int .i64 0) (.int .i64 0) (.int .i64 a) (.int .i64 b) rfl
    obtain ⟨σ', h1, h2⟩ := ih (pre ++ [(a, b)]) (max last a) σ1 (by simp [hp])
    refine ⟨σ', ?_, o1.trans h2⟩
    have hlt : ¬ len ≤ pre.length := by omega
    have hlt2 : pre.length < len := by omega
    have hw := wrapS (n := pre.length) (by omega)
    have hm := max_i last a
    simp only [show (pre ++ [(a, b)]).length = pre.length + 1 by simp, Int.natCast_add, show ((1 : Nat) : Int) = 1 from rfl] at h1
    rw [show lastS last ((a, b) :: suf) = lastS (max last a) suf from rfl]
    generalize max last a = z at *
    rw [fi115] at h1 ⊢
    rw [xl115_0]
    simp only [B115_0, b115, Try.f115, Option.getD, fstC, sndC, bodyC, thnC, elsC]
    simp [xI_seq, xI_region, xI_ret, regA, regOps, runOps, opStep, wantedA, opA, evo, evos, calleeA, lk, nif_eq, putE, paramsE, valS, val2, keepE, restrict, finA, resA, binA, binInt, ofConst, ofConst1, loadA, TK.isAgg, asVar, unA, builtinA, lenOpA, lenA, ileb_cast, ileb_eq, ieqb_dec, indexAddrA, inB_dec, evPairs, storeA, AV.cellsOf, pairsOf, xI_nil, binBool, gcE, evOpt, xI_block, xI_loopH, xI_condM, xI_exitM, xI_skip, xI_blk, exitA, ty2, ty3, ty4, ty33, ty41, ty74, ty76, ty127, eK115_0_0, eK115_1_2, fieldAddrA, allOne, AV.one, ty2, ty33, ty41, ty74, ty76, hlt, hlt2, hw, k2, s1, d0, d1, hm]
    exact h1

def bhR (e wanted : Nat) (r : Option (List Nat)) (mw : Nat) : AV := match r with
  | some _ => .tup [.ptr e 0, .int .i64 mw, .bool true]
  | none => .tup [.nilP, .int .i64 0, .bool false]
theorem red_step {w : Nat} {rows rows' : List Nat} {e : Nat} (h : add w rows e = some rows') (hR : Red w rows) (he : e < 2 ^ (w + 1)) : Red w rows' ∧ rows'.length ≤ rows.length + 1 := by
  refine ⟨(addAll_some [e] rows rows' hR (by simpa using he) (by simp [addAll, h])).1, ?_⟩
  rw [add_eq] at h
  split at h
  · split at h
    · cases h; omega
    · cases h
  · cases h; simp
theorem l115b (A : List Nat) (o : Nat) (h16 : A.length ≤ 16) (hA : ∀ r ∈ A, r < 2 ^ A.length) (ho : o < 2 ^ A.length) (S : List (Nat × Nat)) (hS : ∀ x ∈ S, x.1 ≤ 10000 ∧ x.2 ≤ 1) (len : Nat) (hlen : len = S.length) (hl : len ≤ 64) (wanted M : Nat) (hM : ∀ x ∈ S, x.1 < M) (hW : wanted < M) (e lo q bm : Nat) (σm : St) (hq : σm.get q = some ⟨[.sl bm 0 M M], 1, false⟩) (hq1 : q < lo) (hq2 : q ≠ e) (hb1 : bm < lo) (hb2 : bm ≠ e) (hrm : Row σm bm (nints (mks A o M))) : ∀ (suf pre : List (Nat × Nat)) (rows : List Nat) (v : AV) (σ : St), S = pre ++ suf → ES σ e lo A.length rows v → Red A.length rows → rows.length ≤ pre.length → (∀ c, c < lo → c ≠ e → σ.get c = σm.get c) →
    ∃ σ', exI TT (FI.of Try.f115 (TT.an 115)) K115_1 [(2, .int .i64 wanted), (12, .ptr q 0), (13, .ptr e 0), (38, .lst len (pairs (npairs S))), (39, .int .i64 len), (40, .int .i64 pre.length)] σ = some (bhR e wanted (addAll A.length rows (seqs A.length A o suf)) (mk A o wanted), σ') ∧
      (∀ rows', addAll A.length rows (seqs A.length A o suf) = some rows' → ∃ v', ES σ' e lo A.length rows' v' ∧ Red A.length rows' ∧ rows'.length ≤ 64) ∧ ∀ c, c < lo → c ≠ e → σ'.get c = σm.get c := by
  intro suf
  induction suf with
  | nil =>
    intro pre rows v σ hp hE hR hrl hk
    have hll : len = pre.length := by rw [hlen, hp]; simp
    subst hll
    refine ⟨σ, ?_, fun rows' h => ?_, hk⟩
    · have kq : cellsAt σ (.ptr q 0) 1 = some [.sl bm 0 M M] := by simp [cellsAt, (hk q hq1 hq2).trans hq, getCells, takeN, dropN]
      have hr : Row σ bm (nints (mks A o M)) := by
        obtain ⟨z, h1, _⟩ := hrm
        exact ⟨z, (hk bm hb1 hb2).trans h1, Nat.lt_of_lt_of_le hb1 hE.2.1⟩
      have hrd := hr.read (mks_get A o hW)
      have hWi : (wanted : Int) < M := by omega
      simp only [show seqs A.length A o [] = [] from rfl, addAll, bhR]
      rw [fi115]
      rw [xl115_1]
      simp only [B115_1, b115, Try.f115, Option.getD, fstC, sndC, bodyC, thnC, elsC]
      simp [xI_seq, xI_region, xI_ret, regA, regOps, runOps, opStep, wantedA, opA, evo, evos, calleeA, lk, nif_eq, putE, paramsE, valS, val2, keepE, restrict, finA, resA, binA, binInt, ofConst, ofConst1, loadA, TK.isAgg, asVar, unA, builtinA, lenOpA, lenA, ileb_cast, ileb_eq, ieqb_dec, indexAddrA, inB_dec, evPairs, storeA, AV.cellsOf, pairsOf, xI_nil, binBool, gcE, evOpt, xI_block, xI_loopH, xI_condM, xI_exitM, xI_skip, xI_blk, exitA, ty2, ty3, ty4, ty33, ty41, ty74, ty76, ty127, eK115_0_0, eK115_1_2]
      simp only [R115_1_2, b115, Try.f115, Option.getD, fstC, sndC, bodyC, thnC, elsC]
      simp [xI_seq, xI_region, xI_ret, regA, regOps, runOps, opStep, wantedA, opA, evo, evos, calleeA, lk, nif_eq, putE, paramsE, valS, val2, keepE, restrict, finA, resA, binA, binInt, ofConst, ofConst1, loadA, TK.isAgg, asVar, unA, builtinA, lenOpA, lenA, ileb_cast, ileb_eq, ieqb_dec, indexAddrA, inB_dec, evPairs, storeA, AV.cellsOf, pairsOf, xI_nil, binBool, gcE, evOpt, xI_block, xI_loopH, xI_condM, xI_exitM, xI_skip, xI_blk, exitA, ty2, ty3, ty4, ty33, ty41, ty74, ty76, ty127, eK115_0_0, eK115_1_2, ty33, ty2, kq, hrd, hW, hWi]
    · simp only [show seqs A.length A o [] = [] from rfl, addAll] at h
      cases h
      exact ⟨v, hE, hR, by omega⟩
  | cons x suf ih =>
    intro pre rows v σ hp hE hR hrl hk
    obtain ⟨a, b⟩ := x
    have hll : len = pre.length + (suf.length + 1) := by rw [hlen, hp]; simp
    have hab := hS (a, b) (by simp [hp])
    have haM := hM (a, b) (by simp [hp])
    simp only at hab haM
    have hg : (npairs S)[pre.length]? = some ((a : Int), (b : Int)) := npairs_get (by simp [hp])
    obtain ⟨q2, _, _⟩ := pairs_get hg
    have k2 : ∀ σ, cellsAt σ (.lp (pairs (npairs S)) (pre.length * 2)) 2 = some [.int .i64 a, .int .i64 b] := fun σ => q2
    obtain ⟨σ1, s1, d0, d1, o1⟩ := boxed2o σ (.int .i64 0) (.int .i64 0) (.int .i64 a) (.int .i64 b) rfl
    have hE1 := hE.old o1
    have hk1 : ∀ c, c < lo → c ≠ e → σ1.get c = σm.get c := fun c hc hce => (o1.2 c (Nat.lt_of_lt_of_le hc hE.2.1)).trans (hk c hc hce)
    have kq : cellsAt σ1 (.ptr q 0) 1 = some [.sl bm 0 M M] := by simp [cellsAt, (hk1 q hq1 hq2).trans hq, getCells, takeN, dropN]
    have hr : Row σ1 bm (nints (mks A o M)) := by
      obtain ⟨z, h1, _⟩ := hrm
      exact ⟨z, (hk1 bm hb1 hb2).trans h1, Nat.lt_of_lt_of_le hb1 hE1.2.1⟩
    have hrd := hr.read (mks_get A o haM)
    have haMi : (a : Int) < M := by omega
    have hmk := mk_lt hA ho a
    have hlt : ¬ len ≤ pre.length := by omega
    have hlt2 : pre.length < len := by omega
    have hw := wrapS (n := pre.length) (by omega)
    rw [show seqs A.length A o ((a, b) :: suf) = eqn A.length (mk A o a) b :: seqs A.length A o suf from rfl, addAll_cons]
    have hle : rows.length ≤ 100000 := by omega
    cases ha : add A.length rows (eqn A.length (mk A o a) b) with
    | none =>
      have hC := c107n A.length h16 e lo rows v σ1 hE1 hR.ok hle (mk A o a) b hmk hab.2 ha
      refine ⟨σ1, ?_, fun rows' h => by simp at h, hk1⟩
      simp only [bhR]
      generalize mk A o a = z at *
      rw [fi115]
      rw [xl115_1]
      simp only [B115_1, b115, Try.f115, Option.getD, fstC, sndC, bodyC, thnC, elsC]
      simp [xI_seq, xI_region, xI_ret, regA, regOps, runOps, opStep, wantedA, opA, evo, evos, calleeA, lk, nif_eq, putE, paramsE, valS, val2, keepE, restrict, finA, resA, binA, binInt, ofConst, ofConst1, loadA, TK.isAgg, asVar, unA, builtinA, lenOpA, lenA, ileb_cast, ileb_eq, ieqb_dec, indexAddrA, inB_dec, evPairs, storeA, AV.cellsOf, pairsOf, xI_nil, binBool, gcE, evOpt, xI_block, xI_loopH, xI_condM, xI_exitM, xI_skip, xI_blk, exitA, ty2, ty3, ty4, ty33, ty41, ty74, ty76, ty127, eK115_0_0, eK115_1_2, fieldAddrA, allOne, AV.one, ty2, ty33, ty41, ty74, ty76, hlt, hlt2, hw, k2, s1, d0, d1, kq, hrd, haM, haMi, hC]
    | some rows1 =>
      obtain ⟨σ2, v2, hC, hE2, hn2, hu2⟩ := c107y A.length h16 e lo rows rows1 v σ1 hE1 hR.ok hle (mk A o a) b hmk hab.2 ha
      obtain ⟨hR1, hl1⟩ := red_step ha hR (eqn_lt hmk hab.2)
      obtain ⟨σ', h1, h2, h3⟩ := ih (pre ++ [(a, b)]) rows1 v2 σ2 (by simp [hp]) hE2 hR1 (by simp; omega) (fun c hc hce => (hu2 c hc hce).trans (hk1 c hc hce))
      refine ⟨σ', ?_, h2, h3⟩
      simp only [show (pre ++ [(a, b)]).length = pre.length + 1 by simp, Int.natCast_add, show ((1 : Nat) : Int) = 1 from rfl] at h1
      simp only
      generalize bhR e wanted (addAll A.length rows1 (seqs A.length A o suf)) (mk A o wanted) = res at *
      generalize mk A o a = z at *
      rw [fi115] at h1 ⊢
      rw [xl115_1]
      simp only [B115_1, b115, Try.f115, Option.getD, fstC, sndC, bodyC, thnC, elsC]
      simp [xI_seq, xI_region, xI_ret, regA, regOps, runOps, opStep, wantedA, opA, evo, evos, calleeA, lk, nif_eq, putE, paramsE, valS, val2, keepE, restrict, finA, resA, binA, binInt, ofConst, ofConst1, loadA, TK.isAgg, asVar, unA, builtinA, lenOpA, lenA, ileb_cast, ileb_eq, ieqb_dec, indexAddrA, inB_dec, evPairs, storeA, AV.cellsOf, pairsOf, xI_nil, binBool, gcE, evOpt, xI_block, xI_loopH, xI_condM, xI_exitM, xI_skip, xI_blk, exitA, ty2, ty3, ty4, ty33, ty41, ty74, ty76, ty127, eK115_0_0, eK115_1_2, fieldAddrA, allOne, AV.one, ty2, ty33, ty41, ty74, ty76, hlt, hlt2, hw, k2, s1, d0, d1, kq, hrd, haM, haMi, hC]
      exact h1
set_option maxHeartbeats 1000000 in
theorem r115 (A : List Nat) (o : Nat) (h16 : A.length ≤ 16) (hA : ∀ r ∈ A, r < 2 ^ A.length) (ho : o < 2 ^ A.length) (S : List (Nat × Nat)) (hS : ∀ x ∈ S, x.1 ≤ 10000 ∧ x.2 ≤ 1) (hl : S.length ≤ 64) (wanted : Nat) (hW : wanted ≤ 10000) (σ : St) :
    ∃ σ' e lo, callI TT 115 [.agg (lin A.length (nints A) o), .lst S.length (pairs (npairs S)), .int .i64 wanted] σ = some (bhR e wanted (addAll A.length [] (seqs A.length A o S)) (mk A o wanted), σ') ∧
      (∀ rows', addAll A.length [] (seqs A.length A o S) = some rows' → ∃ v', ES σ' e lo A.length rows' v' ∧ Red A.length rows' ∧ rows'.length ≤ 64) ∧ ∀ c, c < σ.n → σ'.get c = σ.get c := by
  have hA62 : ∀ r ∈ A, r < 2 ^ 62 := fun r hr => w62 h16 (hA r hr)
  -- the machine in a cell of its own
  obtain ⟨σ1, hσ1⟩ : ∃ σ1, σ.push ⟨lin A.length (nints A) o, 3, false⟩ = σ1 := ⟨_, rfl⟩
  have n1 : σ1.n = σ.n + 1 := by subst hσ1; rfl
  have g1 : σ1.get σ.n = some ⟨lin A.length (nints A) o, 3, false⟩ := by subst hσ1; exact get_push_same
  have o1 : Old σ σ1 := by subst hσ1; exact Old.push
  -- the last output that is asked for
  obtain ⟨σ2, h2, o2⟩ := l115a S wanted σ.n S.length rfl hl S [] wanted σ1 rfl
  have g2 : σ2.get σ.n = some ⟨lin A.length (nints A) o, 3, false⟩ := (o2.2 σ.n (by omega)).trans g1
  have n2 := o2.1
  obtain ⟨last, hlast⟩ : ∃ last, last = lastS wanted S := ⟨_, rfl⟩
  obtain ⟨hg1, hg2⟩ := lastS_ge S wanted
  have hg3 := lastS_le S wanted hW (fun x hx => (hS x hx).1)
  rw [← hlast] at hg1 hg2 hg3 h2
  -- the cell of the masks
  obtain ⟨σ3, hσ3⟩ : ∃ σ3, σ2.push ⟨ints [], 1, false⟩ = σ3 := ⟨_, rfl⟩
  have n3 : σ3.n = σ2.n + 1 := by subst hσ3; rfl
  have r3 : Row σ3 σ2.n (nints (mks A o 0)) := by subst hσ3; exact Row.push
  have o3 : Old σ2 σ3 := by subst hσ3; exact Old.push
  obtain ⟨σ4, s4, g4, o4, n4⟩ := boxed1o σ3 .nilS (.sl σ2.n 0 0 0) rfl
  have r4 := r3.old o4
  have p4 : σ4.get σ.n = some ⟨lin A.length (nints A) o, 3, false⟩ := (o4.2 σ.n (by omega)).trans ((o3.2 σ.n (by omega)).trans g2)
  -- the machine once more
  obtain ⟨σ5, hσ5⟩ : ∃ σ5, σ4.push ⟨lin A.length (nints A) o, 3, false⟩ = σ5 := ⟨_, rfl⟩
  have n5 : σ5.n = σ4.n + 1 := by subst hσ5; rfl
  have g5 : σ5.get σ4.n = some ⟨lin A.length (nints A) o, 3, false⟩ := by subst hσ5; exact get_push_same
  have o5 : Old σ4 σ5 := by subst hσ5; exact Old.push
  have hloop := l105 A o (last + 1) h16 hA62 (w62 h16 ho) (by omega) 141 [.ptr σ3.n 0] (fun i τ => ∃ b, τ.get σ3.n = some ⟨[.sl b 0 i i], 1, false⟩ ∧ σ3.n ≠ b ∧ σ2.n ≤ b ∧ b ≠ σ4.n ∧ Row τ b (nints (mks A o i)) ∧ σ5.n ≤ τ.n ∧ τ.get σ4.n = some ⟨lin A.length (nints A) o, 3, false⟩ ∧ ∀ c, c < σ2.n → τ.get c = σ5.get c) σ4.n
    (fun i τ ⟨b, _, _, _, _, _, _, g, _⟩ => by simp [cellsAt, g, lin, getCells, takeN, dropN, nints_length])
    (fun i τ hi ⟨b, a1, a2, a3, a4, a5, a6, a7, a8⟩ => by
      obtain ⟨τ', b', c1, c2, c3, c4, c5, c6, c7⟩ := c141 A o i (by omega) τ σ3.n b a1 (by omega) a2 a5 i
      refine ⟨_, τ', c1, b', c2, c3, by omega, by omega, c4, by omega, ?_, fun c hc => ?_⟩
      · rw [c7 σ4.n (by omega) (by omega) (fun h => a4 h.symm)]; exact a7
      · rw [c7 c (by omega) (by omega) (by omega)]; exact a8 c hc)
  obtain ⟨σ6, h6, bm, q1, q2, q3, q4, q5, q6, q7, q8⟩ := hloop (last + 1) 0 σ5 (by omega) ⟨σ2.n, by rw [o5.2 σ3.n (by omega)]; exact g4, by omega, by omega, by omega, r4.old o5, by omega, g5, fun c _ => rfl⟩
  simp only [show mk A o 0 = o from rfl, Int.natCast_zero, show ((0 : Nat) : Int) = 0 from rfl] at h6
  have hold : ∀ c, c < σ2.n → σ6.get c = σ2.get c := fun c hc => (q8 c hc).trans ((o5.2 c (by omega)).trans ((o4.2 c (by omega)).trans (o3.2 c hc)))
  have p6 : σ6.get σ.n = some ⟨lin A.length (nints A) o, 3, false⟩ := (hold σ.n (by omega)).trans g2
  have qb := q5.lt
  -- the equations
  obtain ⟨σ7, hσ7⟩ : ∃ σ7, σ6.push ⟨[.int .i64 A.length, .nilS], 2, false⟩ = σ7 := ⟨_, rfl⟩
  have n7 : σ7.n = σ6.n + 1 := by subst hσ7; rfl
  have o7 : Old σ6 σ7 := by subst hσ7; exact Old.push
  have hE7 : ES σ7 σ6.n σ7.n A.length [] .nilS := ⟨by omega, Nat.le_refl _, by subst hσ7; exact get_push_same, .inl ⟨rfl, rfl⟩⟩
  obtain ⟨σ', h8, h9, h10⟩ := l115b A o h16 hA ho S hS S.length rfl hl wanted (last + 1) (fun x hx => by have := hg2 x hx; omega) (by omega) σ6.n σ7.n σ3.n bm σ7 ((o7.2 σ3.n (by omega)).trans q1) (by omega) (by omega) (by omega) (by omega) (q5.old o7) S [] [] .nilS σ7 rfl hE7 (red_nil _) (Nat.le_refl _) (fun _ _ _ => rfl)
  refine ⟨σ', σ6.n, σ7.n, ?_, h9, fun c hc => ?_⟩
  · have hC : callI TT 105 [.agg (lin A.length (nints A) o), .int .i64 ((last : Int) + 1), .fn 141 [] [.ptr σ3.n 0]] σ4 = some (.tup [], σ6) := by
      have hk5 : cellsAt σ5 (.ptr σ4.n 2) 1 = some [.int .i64 o] := by simp [cellsAt, g5, lin, getCells, takeN, dropN]
      simp only [Int.natCast_add, show ((1 : Nat) : Int) = 1 from rfl] at h6
      rw [cI_0 fn105 rfl md105, ← h6, fi105]
      simp only [lin] at hσ5 ⊢
      simp [xI_seq, xI_region, xI_ret, regA, regOps, runOps, opStep, wantedA, opA, evo, evos, calleeA, lk, nif_eq, putE, paramsE, valS, val2, keepE, restrict, finA, resA, binA, binInt, ofConst, ofConst1, loadA, TK.isAgg, asVar, unA, builtinA, lenOpA, lenA, ileb_cast, ileb_eq, ieqb_dec, indexAddrA, inB_dec, evPairs, storeA, AV.cellsOf, pairsOf, xI_nil, binBool, gcE, evOpt, xI_block, xI_loopH, xI_condM, xI_exitM, xI_skip, xI_blk, exitA, ty2, ty33, ty41, fieldAddrA, allOne, AV.one, ty2, ty33, ty41, hσ5, hk5]
      rfl
    have k43 : cellsAt σ4 (.ptr σ.n 0) 3 = some (lin A.length (nints A) o) := by simp [cellsAt, p4, lin, getCells, takeN, dropN]
    have k6 : cellsAt σ6 (.ptr σ.n 0) 1 = some [.int .i64 A.length] := by simp [cellsAt, p6, lin, getCells, takeN, dropN]
    have hw := wrapS (n := last) (by omega)
    have hwi : wrapA .i64 ((A.length : Nat) : Int) = ((A.length : Nat) : Int) := n_wrap (by omega)
    simp only [List.length_nil, Int.natCast_zero, show ((0 : Nat) : Int) = 0 from rfl] at h2 h8
    rw [cI_0 fn115 rfl md115, ← h8]
    rw [fi115] at h2 ⊢
    simp only [lin] at hσ1 k43 hC ⊢
    simp [xI_seq, xI_region, xI_ret, regA, regOps, runOps, opStep, wantedA, opA, evo, evos, calleeA, lk, nif_eq, putE, paramsE, valS, val2, keepE, restrict, finA, resA, binA, binInt, ofConst, ofConst1, loadA, TK.isAgg, asVar, unA, builtinA, lenOpA, lenA, ileb_cast, ileb_eq, ieqb_dec, indexAddrA, inB_dec, evPairs, storeA, AV.cellsOf, pairsOf, xI_nil, binBool, gcE, evOpt, xI_block, xI_loopH, xI_condM, xI_exitM, xI_skip, xI_blk, exitA, ty2, ty3, ty4, ty33, ty41, ty74, ty76, ty127, eK115_0_0, eK115_1_2, allOne, AV.one, ty74, ty41, hσ1]
    refine h2.trans ?_
    simp only [R115_0_0, b115, Try.f115, Option.getD, fstC, sndC, bodyC, thnC, elsC]
    simp [xI_seq, xI_region, xI_ret, regA, regOps, runOps, opStep, wantedA, opA, evo, evos, calleeA, lk, nif_eq, putE, paramsE, valS, val2, keepE, restrict, finA, resA, binA, binInt, ofConst, ofConst1, loadA, TK.isAgg, asVar, unA, builtinA, lenOpA, lenA, ileb_cast, ileb_eq, ieqb_dec, indexAddrA, inB_dec, evPairs, storeA, AV.cellsOf, pairsOf, xI_nil, binBool, gcE, evOpt, xI_block, xI_loopH, xI_condM, xI_exitM, xI_skip, xI_blk, exitA, ty2, ty3, ty4, ty33, ty41, ty74, ty76, ty127, eK115_0_0, eK115_1_2, fieldAddrA, allOne, AV.one, ty2, ty3, ty33, ty41, ty127, buildA, sizesOf, fillA, putCells, bn0, hσ3, s4, k43, hw, hC, k6, hwi, hσ7]
    rfl
  · rw [h10 c (by omega) (by omega), o7.2 c (by omega), hold c (by omega), o2.2 c (by omega), o1.2 c hc]

open Go.Wd
theorem es_eqv {σ : St} {e lo w : Nat} {rows : List Nat} {v : AV} (h : ES σ e lo w rows v) : v.eqv v = true := by
  obtain ⟨_, _, _, h4⟩ := h
  rcases h4 with ⟨rfl, _⟩ | ⟨b, _, _, rfl, _⟩ <;> simp [AV.eqv]
theorem es_len {σ : St} {e lo w : Nat} {rows : List Nat} {v : AV} (h : ES σ e lo w rows v) : callI TT 81 [v] σ = some (.int .i64 rows.length, σ) := by
  obtain ⟨_, _, _, h4⟩ := h
  rcases h4 with ⟨rfl, rfl⟩ | ⟨b, _, _, rfl, hr⟩
  · exact v81n σ [.nilS] rfl
  · exact v81 (nints rows) rows.length σ _ (mapO_cons (hr.frz (d := 4) (nints_length _).symm (Nat.le_refl _)) rfl)
theorem v64 (w : Int) (R : List Int) (o : Int) (l : List (Int × Int)) (hs : R.length < 3000000) (hll : l.length < 1000000000000) : FnV TT 64 [.agg (lin w R o), .lst l.length (pairs l)] (stV (stB w R o l)) := by
  have hsc : ∀ r, (stV r).scal = true := fun r => by cases r <;> rfl
  have hfz : ∀ r σ1, frzV σ1 frzDepth (stV r) = some (stV r) := fun r σ1 => by cases r <;> rfl
  refine FnV.mk fn64 rfl md64 ?_ (hfz _) (hsc _)
  obtain ⟨σ, hσ⟩ : ∃ σ, (⟨[], 0⟩ : St).push ⟨lin w R o, 3, false⟩ = σ := ⟨_, rfl⟩
  have hg : σ.get 0 = some ⟨lin w R o, 3, false⟩ := by subst hσ; rfl
  have hn1 : σ.n = 1 := by subst hσ; rfl
  have hcp3 : cellsAt σ (.ptr 0 0) 3 = some [.int .i64 w, .lst R.length (ints R), .int .i64 o] := by subst hσ; rfl
  have h : callI TT 33 [.agg [.int .i64 w, .lst R.length (ints R), .int .i64 o]] σ = some (.bool (vlin w R o), σ) := v33 w R o hs σ _ rfl
  have hi : callI TT 114 [.lst l.length (pairs l)] σ = some (.bool (senOk l), σ) := v114 l hll σ _ rfl
  cases h1 : vlin w R o with
  | false =>
    rw [h1] at h
    rw [stB_no (by rw [h1]; rfl), fi64]
    simp only [lin, stV] at hσ ⊢
    simp [xI_seq, xI_region, xI_ret, regA, regOps, runOps, opStep, wantedA, opA, evo, evos, calleeA, lk, nif_eq, putE, paramsE, valS, val2, keepE, restrict, finA, resA, binA, binInt, ofConst, ofConst1, loadA, TK.isAgg, asVar, unA, builtinA, lenOpA, lenA, ileb_cast, ileb_eq, ieqb_dec, indexAddrA, inB_dec, evPairs, storeA, AV.cellsOf, pairsOf, xI_nil, binBool, gcE, evOpt, xI_block, xI_loopH, xI_condM, xI_exitM, xI_skip, xI_blk, exitA, ty2, ty4, ty33, ty41, ty127, fieldAddrA, allOne, AV.one, n_push, ty2, ty33, ty38, ty41, hσ, hcp3, h]
  | true =>
    rw [h1] at h
    obtain ⟨A, k, rfl, rfl, rfl, h2, h3, h4, h5⟩ := vlin_nat2 h1
    simp only [nints_length] at hcp3 h
    cases hk : senOk l with
    | false =>
      rw [hk] at hi
      rw [stB_no (by rw [hk, Bool.and_false]), fi64]
      simp only [lin, stV, nints_length] at hσ ⊢
      simp [xI_seq, xI_region, xI_ret, regA, regOps, runOps, opStep, wantedA, opA, evo, evos, calleeA, lk, nif_eq, putE, paramsE, valS, val2, keepE, restrict, finA, resA, binA, binInt, ofConst, ofConst1, loadA, TK.isAgg, asVar, unA, builtinA, lenOpA, lenA, ileb_cast, ileb_eq, ieqb_dec, indexAddrA, inB_dec, evPairs, storeA, AV.cellsOf, pairsOf, xI_nil, binBool, gcE, evOpt, xI_block, xI_loopH, xI_condM, xI_exitM, xI_skip, xI_blk, exitA, ty2, ty4, ty33, ty41, ty127, fieldAddrA, allOne, AV.one, n_push, ty2, ty33, ty38, ty41, hσ, hcp3, h, hi]
    | true =>
      rw [hk] at hi
      obtain ⟨S, rfl, hSl, hS⟩ := sen_ok hk
      obtain ⟨σ1, e, lo, c1, g1, g2⟩ := r115 A k h3 h4 h5 S hS hSl 0 (by decide) σ
      simp only [show ((0 : Nat) : Int) = 0 from rfl] at c1
      rw [stB_yes (by rw [h1, hk]; rfl)]
      rw [npairs_length] at hi ⊢
      have hcw : cellsAt σ1 (.ptr 0 0) 1 = some [.int .i64 A.length] := by simp [cellsAt, (g2 0 (by omega)).trans hg, lin, getCells, takeN, dropN]
      simp only [lin, nints_length] at hσ c1 ⊢
      cases ha : addAll A.length [] (seqs A.length A k S) with
      | none =>
        rw [ha] at c1
        simp only [stV, bhR] at c1 ⊢
        rw [fi64]
        simp [xI_seq, xI_region, xI_ret, regA, regOps, runOps, opStep, wantedA, opA, evo, evos, calleeA, lk, nif_eq, putE, paramsE, valS, val2, keepE, restrict, finA, resA, binA, binInt, ofConst, ofConst1, loadA, TK.isAgg, asVar, unA, builtinA, lenOpA, lenA, ileb_cast, ileb_eq, ieqb_dec, indexAddrA, inB_dec, evPairs, storeA, AV.cellsOf, pairsOf, xI_nil, binBool, gcE, evOpt, xI_block, xI_loopH, xI_condM, xI_exitM, xI_skip, xI_blk, exitA, ty2, ty4, ty33, ty41, ty127, fieldAddrA, allOne, AV.one, n_push, ty2, ty33, ty38, ty41, hσ, hcp3, h, hi, c1]
      | some rows =>
        rw [ha] at c1
        obtain ⟨v, hE, hR, hrl⟩ := g1 rows ha
        have hlt := seqs_lt (w := A.length) h4 h5 hS
        obtain ⟨_, _, hrw, _⟩ := (addAll_can (w := A.length) (by omega) hlt).2 rows ha
        have hL := c111 A.length h3 σ1 e lo rows v hE hR.ok (by omega)
        have hv := hE.v
        have hqv := es_eqv hE
        have hln := es_len hE
        have hsub : wrapA .i64 ((A.length : Int) - (rows.length : Int)) = ((A.length - rows.length : Nat) : Int) := by rw [wrapA_id (by omega) (by omega)]; omega
        simp only [stV, bhR] at c1 ⊢
        generalize A.length - rows.length = z at *
        rw [fi64]
        simp [xI_seq, xI_region, xI_ret, regA, regOps, runOps, opStep, wantedA, opA, evo, evos, calleeA, lk, nif_eq, putE, paramsE, valS, val2, keepE, restrict, finA, resA, binA, binInt, ofConst, ofConst1, loadA, TK.isAgg, asVar, unA, builtinA, lenOpA, lenA, ileb_cast, ileb_eq, ieqb_dec, indexAddrA, inB_dec, evPairs, storeA, AV.cellsOf, pairsOf, xI_nil, binBool, gcE, evOpt, xI_block, xI_loopH, xI_condM, xI_exitM, xI_skip, xI_blk, exitA, ty2, ty4, ty33, ty41, ty127, runTr, pairsOk, pairOk, lstAt, lastOf, sameVal, AV.eqv, eqvs, eqvs_ints, regOps, blt_dec, cond_true, cond_false, fieldAddrA, allOne, AV.one, n_push, ty2, ty33, ty38, ty41, ty127, hσ, hcp3, h, hi, c1, hcw, hL, hv, hqv, hln, hsub]

/-- What is told of an output. -/
def pdB (w : Int) (R : List Int) (o : Int) (l : List (Int × Int)) (at_ : Int) : Option Nat := if (vlin w R o && senOk l && inR at_ 0 10000) = true then
  (match addAll R.length [] (seqs R.length (nats R) o.toNat (natP l)) with | some rows => if lead R.length (reduced R.length rows (mk (nats R) o.toNat at_.toNat)) = R.length then some (shrN (reduced R.length rows (mk (nats R) o.toNat at_.toNat)) R.length) else none | none => none) else none
def pdV (r : Option Nat) : AV := match r with
  | some a => .tup [.int .i64 a, .bool true]
  | none => .tup [.int .i64 0, .bool false]
theorem pdB_no {w : Int} {R : List Int} {o : Int} {l : List (Int × Int)} {at_ : Int} (h : (vlin w R o && senOk l && inR at_ 0 10000) = false) : pdB w R o l at_ = none := by simp [pdB, h]
theorem pdB_yes {A : List Nat} {k : Nat} {S : List (Nat × Nat)} {m : Nat} (h : (vlin (A.length : Int) (nints A) k && senOk (npairs S) && inR (m : Int) 0 10000) = true) : pdB (A.length : Int) (nints A) k (npairs S) m = (match addAll A.length [] (seqs A.length A k S) with | some rows => if lead A.length (reduced A.length rows (mk A k m)) = A.length then some (shrN (reduced A.length rows (mk A k m)) A.length) else none | none => none) := by
  unfold pdB; rw [if_pos h]; simp [nats_nints, nints_length, natP_npairs]

theorem v65 (w : Int) (R : List Int) (o : Int) (l : List (Int × Int)) (at_ : Int) (hs : R.length < 3000000) (hll : l.length < 1000000000000) : FnV TT 65 [.agg (lin w R o), .lst l.length (pairs l), .int .i64 at_] (pdV (pdB w R o l at_)) := by
  have hsc : ∀ r, (pdV r).scal = true := fun r => by cases r <;> rfl
  have hfz : ∀ r σ1, frzV σ1 frzDepth (pdV r) = some (pdV r) := fun r σ1 => by cases r <;> rfl
  refine FnV.mk fn65 rfl md65 ?_ (hfz _) (hsc _)
  obtain ⟨σ, hσ⟩ : ∃ σ, (⟨[], 0⟩ : St).push ⟨lin w R o, 3, false⟩ = σ := ⟨_, rfl⟩
  have hg : σ.get 0 = some ⟨lin w R o, 3, false⟩ := by subst hσ; rfl
  have hn1 : σ.n = 1 := by subst hσ; rfl
  have hcp3 : cellsAt σ (.ptr 0 0) 3 = some [.int .i64 w, .lst R.length (ints R), .int .i64 o] := by subst hσ; rfl
  have h : callI TT 33 [.agg [.int .i64 w, .lst R.length (ints R), .int .i64 o]] σ = some (.bool (vlin w R o), σ) := v33 w R o hs σ _ rfl
  have hi : callI TT 114 [.lst l.length (pairs l)] σ = some (.bool (senOk l), σ) := v114 l hll σ _ rfl
  have hr := c80 at_ 0 10000 σ
  cases h1 : vlin w R o with
  | false =>
    rw [h1] at h
    rw [pdB_no (by rw [h1]; rfl), fi65]
    simp only [lin, pdV] at hσ ⊢
    simp [xI_seq, xI_region, xI_ret, regA, regOps, runOps, opStep, wantedA, opA, evo, evos, calleeA, lk, nif_eq, putE, paramsE, valS, val2, keepE, restrict, finA, resA, binA, binInt, ofConst, ofConst1, loadA, TK.isAgg, asVar, unA, builtinA, lenOpA, lenA, ileb_cast, ileb_eq, ieqb_dec, indexAddrA, inB_dec, evPairs, storeA, AV.cellsOf, pairsOf, xI_nil, binBool, gcE, evOpt, xI_block, xI_loopH, xI_condM, xI_exitM, xI_skip, xI_blk, exitA, ty2, ty3, ty4, ty41, ty127, fieldAddrA, allOne, AV.one, n_push, ty2, ty33, ty38, ty41, hσ, hcp3, h]
  | true =>
    rw [h1] at h
    obtain ⟨A, k, rfl, rfl, rfl, h2, h3, h4, h5⟩ := vlin_nat2 h1
    simp only [nints_length] at hcp3 h
    cases hk : senOk l with
    | false =>
      rw [hk] at hi
      rw [pdB_no (by rw [hk, Bool.and_false]; rfl), fi65]
      simp only [lin, pdV, nints_length] at hσ ⊢
      simp [xI_seq, xI_region, xI_ret, regA, regOps, runOps, opStep, wantedA, opA, evo, evos, calleeA, lk, nif_eq, putE, paramsE, valS, val2, keepE, restrict, finA, resA, binA, binInt, ofConst, ofConst1, loadA, TK.isAgg, asVar, unA, builtinA, lenOpA, lenA, ileb_cast, ileb_eq, ieqb_dec, indexAddrA, inB_dec, evPairs, storeA, AV.cellsOf, pairsOf, xI_nil, binBool, gcE, evOpt, xI_block, xI_loopH, xI_condM, xI_exitM, xI_skip, xI_blk, exitA, ty2, ty3, ty4, ty41, ty127, fieldAddrA, allOne, AV.one, n_push, ty2, ty33, ty38, ty41, hσ, hcp3, h, hi]
    | true =>
      rw [hk] at hi
      obtain ⟨S, rfl, hSl, hS⟩ := sen_ok hk
      cases hm : inR at_ 0 10000 with
      | false =>
        rw [hm] at hr
        rw [pdB_no (by rw [hm, Bool.and_false]), fi65]
        rw [npairs_length] at hi ⊢
        simp only [lin, pdV, nints_length] at hσ ⊢
        simp [xI_seq, xI_region, xI_ret, regA, regOps, runOps, opStep, wantedA, opA, evo, evos, calleeA, lk, nif_eq, putE, paramsE, valS, val2, keepE, restrict, finA, resA, binA, binInt, ofConst, ofConst1, loadA, TK.isAgg, asVar, unA, builtinA, lenOpA, lenA, ileb_cast, ileb_eq, ieqb_dec, indexAddrA, inB_dec, evPairs, storeA, AV.cellsOf, pairsOf, xI_nil, binBool, gcE, evOpt, xI_block, xI_loopH, xI_condM, xI_exitM, xI_skip, xI_blk, exitA, ty2, ty3, ty4, ty41, ty127, fieldAddrA, allOne, AV.one, n_push, ty2, ty33, ty38, ty41, hσ, hcp3, h, hi, hr]
      | true =>
        rw [hm] at hr
        have hm2 := inR_iff.1 hm
        obtain ⟨m, rfl⟩ : ∃ m : Nat, at_ = m := ⟨at_.toNat, by omega⟩
        obtain ⟨σ1, e, lo, c1, g1, g2⟩ := r115 A k h3 h4 h5 S hS hSl m (by omega) σ
        rw [pdB_yes (by rw [h1, hk, hm]; rfl)]
        rw [npairs_length] at hi ⊢
        simp only [lin, nints_length] at hσ c1 ⊢
        cases ha : addAll A.length [] (seqs A.length A k S) with
        | none =>
          rw [ha] at c1
          simp only [pdV, bhR] at c1 ⊢
          generalize mk A k m = mm at *
          rw [fi65]
          simp [xI_seq, xI_region, xI_ret, regA, regOps, runOps, opStep, wantedA, opA, evo, evos, calleeA, lk, nif_eq, putE, paramsE, valS, val2, keepE, restrict, finA, resA, binA, binInt, ofConst, ofConst1, loadA, TK.isAgg, asVar, unA, builtinA, lenOpA, lenA, ileb_cast, ileb_eq, ieqb_dec, indexAddrA, inB_dec, evPairs, storeA, AV.cellsOf, pairsOf, xI_nil, binBool, gcE, evOpt, xI_block, xI_loopH, xI_condM, xI_exitM, xI_skip, xI_blk, exitA, ty2, ty3, ty4, ty41, ty127, fieldAddrA, allOne, AV.one, n_push, ty2, ty33, ty38, ty41, hσ, hcp3, h, hi, hr, c1]
        | some rows =>
          rw [ha] at c1
          obtain ⟨v, hE, hR, hrl⟩ := g1 rows ha
          have hmk := mk_lt h4 h5 m
          have hmk2 : mk A k m < 2 ^ (A.length + 1) := Nat.lt_trans hmk (Nat.pow_lt_pow_right (by decide) (by omega))
          have hRd := c116 A.length h3 σ1 e lo rows v hE hR.ok (by omega) (mk A k m) hmk2
          have hrlt := reduced_lt A.length rows (mk A k m) hR.ok hmk2
          have hLd := c117 A.length (reduced A.length rows (mk A k m)) h3 (lt_w h3 hrlt) σ1 e _ v hE.2.2.1 rfl
          have hw := hE.w
          have hlw := lead_le A.length (reduced A.length rows (mk A k m))
          simp only [bhR] at c1
          simp only
          generalize reduced A.length rows (mk A k m) = rr at *
          generalize mk A k m = mm at *
          have hs1 := sh_r (a := rr) (b := A.length) (by omega)
          have hw0 : ¬ ((A.length : Int) < 0) := by omega
          by_cases hl : lead A.length rr = A.length
          · rw [show ldI A.length rr = -1 by simp [ldI, hl]] at hLd
            simp only [if_pos hl, pdV]
            rw [fi65]
            simp [xI_seq, xI_region, xI_ret, regA, regOps, runOps, opStep, wantedA, opA, evo, evos, calleeA, lk, nif_eq, putE, paramsE, valS, val2, keepE, restrict, finA, resA, binA, binInt, ofConst, ofConst1, loadA, TK.isAgg, asVar, unA, builtinA, lenOpA, lenA, ileb_cast, ileb_eq, ieqb_dec, indexAddrA, inB_dec, evPairs, storeA, AV.cellsOf, pairsOf, xI_nil, binBool, gcE, evOpt, xI_block, xI_loopH, xI_condM, xI_exitM, xI_skip, xI_blk, exitA, ty2, ty3, ty4, ty41, ty127, fieldAddrA, allOne, AV.one, n_push, ty2, ty33, ty38, ty41, ty3, ty127, hσ, hcp3, h, hi, hr, c1, hRd, hLd, hw, hs1, hw0]
          · rw [show ldI A.length rr = ((lead A.length rr : Nat) : Int) by simp [ldI, hl]] at hLd
            simp only [if_neg hl, pdV]
            have hl0 : (0 : Int) ≤ ((lead A.length rr : Nat) : Int) := by omega
            rw [fi65]
            simp [xI_seq, xI_region, xI_ret, regA, regOps, runOps, opStep, wantedA, opA, evo, evos, calleeA, lk, nif_eq, putE, paramsE, valS, val2, keepE, restrict, finA, resA, binA, binInt, ofConst, ofConst1, loadA, TK.isAgg, asVar, unA, builtinA, lenOpA, lenA, ileb_cast, ileb_eq, ieqb_dec, indexAddrA, inB_dec, evPairs, storeA, AV.cellsOf, pairsOf, xI_nil, binBool, gcE, evOpt, xI_block, xI_loopH, xI_condM, xI_exitM, xI_skip, xI_blk, exitA, ty2, ty3, ty4, ty41, ty127, fieldAddrA, allOne, AV.one, n_push, ty2, ty33, ty38, ty41, ty3, ty127, hσ, hcp3, h, hi, hr, c1, hRd, hLd, hw, hs1, hw0, hl0]

open Go.Wd
theorem can_more {w : Nat} (hw : w < 64) {es : List Nat} {x : Nat} (hb : ∀ e ∈ es, e < 2 ^ (w + 1)) (hx : ∀ e ∈ es ++ [x], e < 2 ^ (w + 1)) (h : can w es = false) : can w (es ++ [x]) = false := by
  rw [Bool.eq_false_iff] at h ⊢
  intro hc
  obtain ⟨X, h1, h2, h3⟩ := (can_iff hw hx).1 hc
  exact h ((can_iff hw hb).2 ⟨X, h1, h2, fun e he => h3 e (by simp [he])⟩)
theorem eqn_one (w m : Nat) : eqn w m 1 = m ||| 2 ^ w := by show m ||| 1 * 2 ^ w = _; rw [Nat.one_mul]
set_option maxHeartbeats 4000000 in
theorem v68 (w : Int) (R : List Int) (o : Int) (l : List (Int × Int)) (at_ : Int) (hs : R.length < 1000000000000) (hll : l.length < 1000000000000) : FnV TT 68 [.agg (lin w R o), .lst l.length (pairs l), .int .i64 at_] (pdV (pdB w R o l at_)) := by
  have hsc : ∀ r, (pdV r).scal = true := fun r => by cases r <;> rfl
  have hfz : ∀ r σ1, frzV σ1 frzDepth (pdV r) = some (pdV r) := fun r σ1 => by cases r <;> rfl
  refine FnV.mk fn68 rfl md68 ?_ (hfz _) (hsc _)
  obtain ⟨σ, hσ⟩ : ∃ σ, (⟨[], 0⟩ : St).push ⟨lin w R o, 3, false⟩ = σ := ⟨_, rfl⟩
  have hg : σ.get 0 = some ⟨lin w R o, 3, false⟩ := by subst hσ; rfl
  have hn1 : σ.n = 1 := by subst hσ; rfl
  have h := c83 w R o hs σ 0 _ hg rfl
  have hr := c88 at_ 0 10000 σ
  cases h1 : vlin w R o with
  | false =>
    rw [h1] at h
    rw [pdB_no (by rw [h1]; rfl), fi68]
    simp only [lin, pdV] at hσ ⊢
    simp [xI_seq, xI_region, xI_ret, regA, regOps, runOps, opStep, wantedA, opA, evo, evos, calleeA, lk, nif_eq, putE, paramsE, valS, val2, keepE, restrict, finA, resA, binA, binInt, ofConst, ofConst1, loadA, TK.isAgg, asVar, unA, builtinA, lenOpA, lenA, ileb_cast, ileb_eq, ieqb_dec, indexAddrA, inB_dec, evPairs, storeA, AV.cellsOf, pairsOf, xI_nil, binBool, gcE, evOpt, xI_block, xI_loopH, xI_condM, xI_exitM, xI_skip, xI_blk, exitA, ty2, ty4, ty33, ty41, ty73, ty76, fieldAddrA, allOne, AV.one, n_push, ty2, ty33, ty38, ty41, hσ, h]
  | true =>
    rw [h1] at h
    obtain ⟨A, k, rfl, rfl, rfl, h2, h3, h4, h5⟩ := vlin_nat2 h1
    cases hm : inR at_ 0 10000 with
    | false =>
      rw [hm] at hr
      rw [pdB_no (by rw [hm, Bool.and_false]), fi68]
      simp only [lin, pdV, nints_length] at hσ ⊢
      simp [xI_seq, xI_region, xI_ret, regA, regOps, runOps, opStep, wantedA, opA, evo, evos, calleeA, lk, nif_eq, putE, paramsE, valS, val2, keepE, restrict, finA, resA, binA, binInt, ofConst, ofConst1, loadA, TK.isAgg, asVar, unA, builtinA, lenOpA, lenA, ileb_cast, ileb_eq, ieqb_dec, indexAddrA, inB_dec, evPairs, storeA, AV.cellsOf, pairsOf, xI_nil, binBool, gcE, evOpt, xI_block, xI_loopH, xI_condM, xI_exitM, xI_skip, xI_blk, exitA, ty2, ty4, ty33, ty41, ty73, ty76, fieldAddrA, allOne, AV.one, n_push, ty2, ty33, ty38, ty41, hσ, h, hr]
    | true =>
      rw [hm] at hr
      have hm2 := inR_iff.1 hm
      obtain ⟨m, rfl⟩ : ∃ m : Nat, at_ = m := ⟨at_.toNat, by omega⟩
      cases hk : senOk l with
      | false =>
        obtain ⟨σ1, v1, c1⟩ := r118n A k h3 h4 h5 l hll hk 0 _ rfl σ hg (by omega)
        rw [pdB_no (by rw [hk, Bool.and_false]; rfl), fi68]
        simp only [lin, pdV, nints_length] at hσ ⊢
        simp [xI_seq, xI_region, xI_ret, regA, regOps, runOps, opStep, wantedA, opA, evo, evos, calleeA, lk, nif_eq, putE, paramsE, valS, val2, keepE, restrict, finA, resA, binA, binInt, ofConst, ofConst1, loadA, TK.isAgg, asVar, unA, builtinA, lenOpA, lenA, ileb_cast, ileb_eq, ieqb_dec, indexAddrA, inB_dec, evPairs, storeA, AV.cellsOf, pairsOf, xI_nil, binBool, gcE, evOpt, xI_block, xI_loopH, xI_condM, xI_exitM, xI_skip, xI_blk, exitA, ty2, ty4, ty33, ty41, ty73, ty76, fieldAddrA, allOne, AV.one, n_push, ty2, ty33, ty38, ty41, hσ, h, hr, c1]
      | true =>
        obtain ⟨S, rfl, hSl, hS⟩ := sen_ok hk
        obtain ⟨σ1, b1, c1, gp0, gn, gb, rr0⟩ := r118y A k h3 h4 h5 S hS hSl 0 _ rfl σ hg (by omega)
        have hsl := seqs_length A.length A k S
        have hlt := seqs_lt (w := A.length) h4 h5 hS
        have hmk := mk_lt h4 h5 m
        have hbl := rr0.lt
        obtain ⟨σ0a, co0, ro0, oo0, no0⟩ := own_row σ1 (.sl b1 0 S.length S.length) (seqs A.length A k S) (by omega) (IsL.of_row rr0 (by rw [nints_length, hsl]))
        rw [hsl] at co0
        have pa0 : σ0a.get 0 = some ⟨lin A.length (nints A) k, 3, false⟩ := (oo0.2 0 (by omega)).trans gp0
        obtain ⟨σ0b, ce0, oe0⟩ := c121 A k m 0 h3 h4 h5 (by omega) (by decide) σ0a 0 _ pa0 (by omega) rfl
        have pb0 : σ0b.get 0 = some ⟨lin A.length (nints A) k, 3, false⟩ := (oe0.2 0 (by omega)).trans pa0
        have hne0 := oe0.1
        obtain ⟨σ0c, ca0, rc0, nc0, uc0⟩ := nints_append_row (x := eqn A.length (mk A k m) 0) ty33 ty2 (ro0.old oe0) (n := S.length) hsl.symm (by omega)
        have pc0 : σ0c.get 0 = some ⟨lin A.length (nints A) k, 3, false⟩ := (uc0 0 (by omega) (by omega)).trans pb0
        have hz0 : ∀ e ∈ seqs A.length A k S ++ [eqn A.length (mk A k m) 0], e < 2 ^ (A.length + 1) := by
          intro e he
          rcases List.mem_append.1 he with he | he
          · exact hlt e he
          · rw [List.mem_singleton.1 he]; exact eqn_lt hmk (by decide)
        have cs0 : callI TT 119 [.sl (σ0b.n + 1) 0 (seqs A.length A k S ++ [eqn A.length (mk A k m) 0]).length (seqs A.length A k S ++ [eqn A.length (mk A k m) 0]).length, .int .u64 A.length] σ0c = some (.bool (can A.length (seqs A.length A k S ++ [eqn A.length (mk A k m) 0])), σ0c) := v119 A.length (by omega) _ (by simp [hsl]; omega) (fun e he => lt_w h3 (hz0 e he)) σ0c _ (row_frz rc0 _ rfl rfl)
        rw [show (seqs A.length A k S ++ [eqn A.length (mk A k m) 0]).length = S.length + 1 by simp [hsl]] at cs0
        have w00 : cellsAt σ1 (.ptr 0 0) 1 = some [.int .i64 A.length] := by simp [cellsAt, gp0, lin, getCells, takeN, dropN]
        have wa0 : cellsAt σ0a (.ptr 0 0) 1 = some [.int .i64 A.length] := by simp [cellsAt, pa0, lin, getCells, takeN, dropN]
        have wb0 : cellsAt σ0b (.ptr 0 0) 1 = some [.int .i64 A.length] := by simp [cellsAt, pb0, lin, getCells, takeN, dropN]
        have wp0 : ∀ x, cellsAt (σ0b.push x) (.ptr 0 0) 1 = some [.int .i64 A.length] := fun x => by simp [cellsAt, get_push_lt (show 0 < σ0b.n by omega), pb0, lin, getCells, takeN, dropN]
        have wc0 : cellsAt σ0c (.ptr 0 0) 1 = some [.int .i64 A.length] := by simp [cellsAt, pc0, lin, getCells, takeN, dropN]
        have rr1 : Row σ0c b1 (nints (seqs A.length A k S)) := ((rr0.old oo0).old oe0).keep (by omega) (uc0 b1 (by omega) (by omega))
        have gp1 := pc0
        obtain ⟨σ1a, co1, ro1, oo1, no1⟩ := own_row σ0c (.sl b1 0 S.length S.length) (seqs A.length A k S) (by omega) (IsL.of_row rr1 (by rw [nints_length, hsl]))
        rw [hsl] at co1
        have pa1 : σ1a.get 0 = some ⟨lin A.length (nints A) k, 3, false⟩ := (oo1.2 0 (by omega)).trans gp1
        obtain ⟨σ1b, ce1, oe1⟩ := c121 A k m 1 h3 h4 h5 (by omega) (by decide) σ1a 0 _ pa1 (by omega) rfl
        have pb1 : σ1b.get 0 = some ⟨lin A.length (nints A) k, 3, false⟩ := (oe1.2 0 (by omega)).trans pa1
        have hne1 := oe1.1
        obtain ⟨σ1c, ca1, rc1, nc1, uc1⟩ := nints_append_row (x := eqn A.length (mk A k m) 1) ty33 ty2 (ro1.old oe1) (n := S.length) hsl.symm (by omega)
        have pc1 : σ1c.get 0 = some ⟨lin A.length (nints A) k, 3, false⟩ := (uc1 0 (by omega) (by omega)).trans pb1
        have hz1 : ∀ e ∈ seqs A.length A k S ++ [eqn A.length (mk A k m) 1], e < 2 ^ (A.length + 1) := by
          intro e he
          rcases List.mem_append.1 he with he | he
          · exact hlt e he
          · rw [List.mem_singleton.1 he]; exact eqn_lt hmk (by decide)
        have cs1 : callI TT 119 [.sl (σ1b.n + 1) 0 (seqs A.length A k S ++ [eqn A.length (mk A k m) 1]).length (seqs A.length A k S ++ [eqn A.length (mk A k m) 1]).length, .int .u64 A.length] σ1c = some (.bool (can A.length (seqs A.length A k S ++ [eqn A.length (mk A k m) 1])), σ1c) := v119 A.length (by omega) _ (by simp [hsl]; omega) (fun e he => lt_w h3 (hz1 e he)) σ1c _ (row_frz rc1 _ rfl rfl)
        rw [show (seqs A.length A k S ++ [eqn A.length (mk A k m) 1]).length = S.length + 1 by simp [hsl]] at cs1
        have w01 : cellsAt σ0c (.ptr 0 0) 1 = some [.int .i64 A.length] := by simp [cellsAt, gp1, lin, getCells, takeN, dropN]
        have wa1 : cellsAt σ1a (.ptr 0 0) 1 = some [.int .i64 A.length] := by simp [cellsAt, pa1, lin, getCells, takeN, dropN]
        have wb1 : cellsAt σ1b (.ptr 0 0) 1 = some [.int .i64 A.length] := by simp [cellsAt, pb1, lin, getCells, takeN, dropN]
        have wp1 : ∀ x, cellsAt (σ1b.push x) (.ptr 0 0) 1 = some [.int .i64 A.length] := fun x => by simp [cellsAt, get_push_lt (show 0 < σ1b.n by omega), pb1, lin, getCells, takeN, dropN]
        have wc1 : cellsAt σ1c (.ptr 0 0) 1 = some [.int .i64 A.length] := by simp [cellsAt, pc1, lin, getCells, takeN, dropN]
        have u1 := n_wrapu (a := A.length) (by omega)
        have hcan := addAll_can (w := A.length) (by omega) hlt
        rw [pdB_yes (by rw [h1, hk, hm]; rfl)]
        rw [npairs_length]
        have hfin : ∀ (z0 z1 : Bool) (res : AV), can A.length (seqs A.length A k S ++ [eqn A.length (mk A k m) 0]) = z0 → can A.length (seqs A.length A k S ++ [eqn A.length (mk A k m) 1]) = z1 →
            res = (if z0 = z1 then .tup [.int .i64 0, .bool false] else if z1 = true then .tup [.int .i64 1, .bool true] else .tup [.int .i64 0, .bool true]) →
            ∃ σ', exI TT (FI.of Try.f68 (TT.an 68)) [.code (Try.f68.body.getD .skip)] (paramsE 0 [.agg (lin A.length (nints A) k), .lst S.length (pairs (npairs S)), .int .i64 m]) ⟨[], 0⟩ = some (res, σ') := by
          intro z0 z1 res e0 e1 hres
          rw [e0] at cs0
          rw [e1] at cs1
          rw [hres]
          simp only [show ((0 : Nat) : Int) = 0 from rfl, show ((1 : Nat) : Int) = 1 from rfl] at ce0 ce1
          generalize eqn A.length (mk A k m) 0 = q0 at *
          generalize eqn A.length (mk A k m) 1 = q1 at *
          rw [fi68]
          simp only [lin, nints_length] at hσ ⊢
          simp only [Try.f68, Option.getD]
          cases z0 <;> cases z1 <;> simp [xI_seq, xI_region, xI_ret, regA, regOps, runOps, opStep, wantedA, opA, evo, evos, calleeA, lk, nif_eq, putE, paramsE, valS, val2, keepE, restrict, finA, resA, binA, binInt, ofConst, ofConst1, loadA, TK.isAgg, asVar, unA, builtinA, lenOpA, lenA, ileb_cast, ileb_eq, ieqb_dec, indexAddrA, inB_dec, evPairs, storeA, AV.cellsOf, pairsOf, xI_nil, binBool, gcE, evOpt, xI_block, xI_loopH, xI_condM, xI_exitM, xI_skip, xI_blk, exitA, ty2, ty4, ty33, ty41, ty73, ty76, runTr, pairsOk, pairOk, lstAt, lastOf, sameVal, AV.eqv, eqvs, eqvs_ints, regOps, blt_dec, cond_true, cond_false, fieldAddrA, allOne, AV.one, n_push, ty2, ty33, ty38, ty41, ty76, ty73, convA, buildA, sizesOf, fillA, putCells, hσ, h, hr, c1, u1, bs1, co0, ce0, ca0, cs0, w00, wa0, wb0, wp0, wc0, co1, ce1, ca1, cs1, w01, wa1, wb1, wp1, wc1]
        cases ha : addAll A.length [] (seqs A.length A k S) with
        | none =>
          have hn := hcan.1 ha
          exact hfin false false _ (can_more (by omega) hlt hz0 hn) (can_more (by omega) hlt hz1 hn) rfl
        | some rows =>
          obtain ⟨_, _, hrw, hR, _⟩ := hcan.2 rows ha
          obtain ⟨pr1, pr2⟩ := predict (w := A.length) (by omega) hlt ha hmk
          have hmk2 : mk A k m < 2 ^ (A.length + 1) := Nat.lt_trans hmk (Nat.pow_lt_pow_right (by decide) (by omega))
          have hrlt := reduced_lt A.length rows (mk A k m) hR.ok hmk2
          have hlw := lead_le A.length (reduced A.length rows (mk A k m))
          simp only
          by_cases hl : lead A.length (reduced A.length rows (mk A k m)) = A.length
          · obtain ⟨q1, q2⟩ := pr2 hl
            have hq : shrN (reduced A.length rows (mk A k m)) A.length < 2 := by
              show _ / 2 ^ A.length < 2
              rw [Nat.div_lt_iff_lt_mul (Nat.pow_pos (by decide))]; rw [Nat.pow_succ] at hrlt; omega
            have hq' : reduced A.length rows (mk A k m) / 2 ^ A.length = shrN (reduced A.length rows (mk A k m)) A.length := rfl
            rw [hq'] at q1 q2
            simp only [if_pos hl]
            generalize shrN (reduced A.length rows (mk A k m)) A.length = z at *
            have hz : z = 0 ∨ z = 1 := by omega
            rcases hz with rfl | rfl
            · exact hfin true false _ (by rw [eqn_zero, q1]; rfl) (by rw [eqn_one, q2]; rfl) rfl
            · exact hfin false true _ (by rw [eqn_zero, q1]; rfl) (by rw [eqn_one, q2]; rfl) rfl
          · obtain ⟨q1, q2⟩ := pr1 (by omega)
            simp only [if_neg hl]
            exact hfin true true _ (by rw [eqn_zero, q1]) (by rw [eqn_one, q2]) rfl

theorem v67 (n m : Nat) (l : List AV) (hn : n ≤ 9223372036854775807) (hm : m < 1000000000000) : FnV TT 67 [.lst n l, .int .i64 m] (.int .i64 (if n ≤ m then (m : Int) - n else -1)) := by
  refine FnV.mk fn67 rfl md67 ⟨⟨[], 0⟩, ?_⟩ (fun _ => rfl) rfl
  have h := wrapA_id (n := (m : Int) - n) (by omega) (by omega)
  rw [fi67]
  by_cases hl : n ≤ m
  · have h1 : ¬ ((m : Int) - n < 0) := by omega
    simp [xI_seq, xI_region, xI_ret, regA, regOps, runOps, opStep, wantedA, opA, evo, evos, calleeA, lk, nif_eq, putE, paramsE, valS, val2, keepE, restrict, finA, resA, binA, binInt, ofConst, ofConst1, loadA, TK.isAgg, asVar, unA, builtinA, lenOpA, lenA, ileb_cast, ileb_eq, ieqb_dec, indexAddrA, inB_dec, evPairs, storeA, AV.cellsOf, pairsOf, xI_nil, binBool, gcE, evOpt, xI_block, xI_loopH, xI_condM, xI_exitM, xI_skip, xI_blk, exitA, ty3, ty80, ty143, h, h1, hl]
  · have h1 : (m : Int) - n < 0 := by omega
    simp [xI_seq, xI_region, xI_ret, regA, regOps, runOps, opStep, wantedA, opA, evo, evos, calleeA, lk, nif_eq, putE, paramsE, valS, val2, keepE, restrict, finA, resA, binA, binInt, ofConst, ofConst1, loadA, TK.isAgg, asVar, unA, builtinA, lenOpA, lenA, ileb_cast, ileb_eq, ieqb_dec, indexAddrA, inB_dec, evPairs, storeA, AV.cellsOf, pairsOf, xI_nil, binBool, gcE, evOpt, xI_block, xI_loopH, xI_condM, xI_exitM, xI_skip, xI_blk, exitA, ty3, ty80, ty143, h, h1, hl]

theorem v122 (a b : Int) : FnV TT 122 [.agg [.int .i64 a, .int .i64 b]] (.agg [.int .i64 a, .int .i64 b]) := by
  refine FnV.mk fn122 rfl md122 ?_ (fun _ => rfl) rfl
  rw [fi122]
  simp [xI_seq, xI_region, xI_ret, regA, regOps, runOps, opStep, wantedA, opA, evo, evos, calleeA, lk, nif_eq, putE, paramsE, valS, val2, keepE, restrict, finA, resA, binA, binInt, ofConst, ofConst1, loadA, TK.isAgg, asVar, unA, builtinA, lenOpA, lenA, ileb_cast, ileb_eq, ieqb_dec, indexAddrA, inB_dec, evPairs, storeA, AV.cellsOf, pairsOf, xI_nil, binBool, gcE, evOpt, xI_block, xI_loopH, xI_condM, xI_exitM, xI_skip, xI_blk, exitA, ty2, ty76, ty143, cellsAt, getCells, takeN, dropN, fieldAddrA, allOne, AV.one, n_push, storeCellsA, putN, overN, ty2, ty33, ty38, ty41, St.push, St.get, St.set, hget, hset, ty76, ty143]

theorem v123 (a b : Int) : FnV TT 123 [.agg [.int .i64 a, .int .i64 b], .agg [.int .i64 a, .int .i64 b]] (.bool true) := by
  refine FnV.mk fn123 rfl md123 ?_ (fun _ => rfl) rfl
  rw [fi123]
  simp [xI_seq, xI_region, xI_ret, regA, regOps, runOps, opStep, wantedA, opA, evo, evos, calleeA, lk, nif_eq, putE, paramsE, valS, val2, keepE, restrict, finA, resA, binA, binInt, ofConst, ofConst1, loadA, TK.isAgg, asVar, unA, builtinA, lenOpA, lenA, ileb_cast, ileb_eq, ieqb_dec, indexAddrA, inB_dec, evPairs, storeA, AV.cellsOf, pairsOf, xI_nil, binBool, gcE, evOpt, xI_block, xI_loopH, xI_condM, xI_exitM, xI_skip, xI_blk, exitA, ty2, ty76, cellsAt, getCells, takeN, dropN, fieldAddrA, allOne, AV.one, n_push, storeCellsA, putN, overN, ty2, ty33, ty38, ty41, St.push, St.get, St.set, hget, hset, ty76, ty143]
def PRow (σ : St) (b : Nat) (l : List (Int × Int)) : Prop := ∃ o, σ.get b = some ⟨pairs l, 2, o⟩ ∧ b < σ.n
theorem putN_pairs : ∀ (l : List (Int × Int)) (i : Nat) (a b : Int), i < l.length → putN (i * 2) [.int .i64 a, .int .i64 b] (pairs l) = some (pairs (l.set i (a, b)))
  | [], _, _, _, h => by simp at h
  | (x, y) :: r, 0, a, b, _ => by simp [pairs, putN, overN]
  | (x, y) :: r, i + 1, a, b, h => by
    have ih := putN_pairs r i a b (by simpa using h)
    rw [show (i + 1) * 2 = i * 2 + 1 + 1 by omega]
    simp only [pairs, putN, ih, List.set_cons_succ]
theorem store_pairs {σ : St} {b i : Nat} {l : List (Int × Int)} {x y : Int} (hb : PRow σ b l) (h : i < l.length) : ∃ σ', storeCellsA σ b (i * 2) [.int .i64 x, .int .i64 y] = some σ' ∧ PRow σ' b (l.set i (x, y)) := by
  obtain ⟨o, hg, hlt⟩ := hb
  refine ⟨σ.set b ⟨pairs (l.set i (x, y)), 2, o⟩, ?_, o, get_set_eq hg, hlt⟩
  simp [storeCellsA, hg, allOne, AV.one, putN_pairs l i x y h]
theorem rep_pairs : ∀ n, repeatCells [.int .i64 0, .int .i64 0] n = pairs (List.replicate n (0, 0))
  | 0 => rfl
  | n + 1 => by rw [repeatCells, rep_pairs n]; rfl
theorem mapO_pairs {σ : St} {d : Nat} : ∀ (l : List (Int × Int)), mapO (frzV σ (d + 1)) (pairs l) = some (pairs l)
  | [] => rfl
  | (a, b) :: r => by simp only [pairs]; exact mapO_cons rfl (mapO_cons rfl (mapO_pairs r))
theorem PRow.frz {σ : St} {b d : Nat} {l : List (Int × Int)} (h : PRow σ b l) : frzV σ (d + 2) (.sl b 0 l.length l.length) = some (.lst l.length (pairs l)) := by
  obtain ⟨o, hg, _⟩ := h
  have hz : getCells (pairs l) 0 (l.length * 2) = some (pairs l) := by
    rw [getCells_eq, if_pos (by rw [pairs_length]; omega), List.drop_zero, List.take_of_length_le (by rw [pairs_length]; omega)]
  unfold frzV
  simp only [hg, hz, mapO_pairs]
  simp

noncomputable def b69 : Code := Try.f69.body.getD .skip
noncomputable def B69_0 : Code := (bodyC (bodyC (sndC (fstC (sndC (sndC b69))))))
noncomputable def K69_0 : List It := .lp B69_0 :: .blk 0 :: .code (sndC (sndC (sndC b69))) :: []
theorem xl69_0 {fi : FI} {env : Env} {σ : St} : exI TT fi K69_0 env σ = exI TT fi (.code B69_0 :: K69_0) env σ := by unfold K69_0; exact xI_lp
noncomputable def R69_0_0 : List It := .code (sndC (sndC (sndC b69))) :: []
theorem eK69_0_0 : exitA 0 K69_0 = some R69_0_0 := rfl
theorem l69 (l : List (Int × Int)) (len : Nat) (hlen : len = l.length) (hs : len ≤ 1048576) : ∀ (suf pre : List (Int × Int)) (σ : St) (b : Nat) (z : List (Int × Int)), l = pre ++ suf → z.length = suf.length → PRow σ b (pre ++ z) →
    ∃ σ', exI TT (FI.of Try.f69 (TT.an 69)) K69_0 [(0, .lst len (pairs l)), (3, .sl b 0 len len), (4, .int .i64 pre.length)] σ = some (.sl b 0 len len, σ') ∧ PRow σ' b l := by
  intro suf
  induction suf with
  | nil =>
    intro pre σ b z hl hz hr
    have hz : z = [] := by simpa using hz
    subst hz
    have hl : l = pre := by simpa using hl
    subst hl
    refine ⟨σ, ?_, by simpa using hr⟩
    subst hlen
    rw [fi69]
    rw [xl69_0]
    simp only [B69_0, b69, Try.f69, Option.getD, fstC, sndC, bodyC, thnC, elsC]
    simp [xI_seq, xI_region, xI_ret, regA, regOps, runOps, opStep, wantedA, opA, evo, evos, calleeA, lk, nif_eq, putE, paramsE, valS, val2, keepE, restrict, finA, resA, binA, binInt, ofConst, ofConst1, loadA, TK.isAgg, asVar, unA, builtinA, lenOpA, lenA, ileb_cast, ileb_eq, ieqb_dec, indexAddrA, inB_dec, evPairs, storeA, AV.cellsOf, pairsOf, xI_nil, binBool, gcE, evOpt, xI_block, xI_loopH, xI_condM, xI_exitM, xI_skip, xI_blk, exitA, ty3, ty74, ty76, ty80, ty143, eK69_0_0]
    simp only [R69_0_0, b69, Try.f69, Option.getD, fstC, sndC, bodyC, thnC, elsC]
    simp [xI_seq, xI_region, xI_ret, regA, regOps, runOps, opStep, wantedA, opA, evo, evos, calleeA, lk, nif_eq, putE, paramsE, valS, val2, keepE, restrict, finA, resA, binA, binInt, ofConst, ofConst1, loadA, TK.isAgg, asVar, unA, builtinA, lenOpA, lenA, ileb_cast, ileb_eq, ieqb_dec, indexAddrA, inB_dec, evPairs, storeA, AV.cellsOf, pairsOf, xI_nil, binBool, gcE, evOpt, xI_block, xI_loopH, xI_condM, xI_exitM, xI_skip, xI_blk, exitA, ty3, ty74, ty76, ty80, ty143, eK69_0_0]
  | cons x suf ih =>
    intro pre σ b z hl hz hr
    obtain ⟨y, z, rfl⟩ : ∃ y z', z = y :: z' := by cases z with | nil => simp at hz | cons y z => exact ⟨y, z, rfl⟩
    obtain ⟨xa, xb⟩ := x
    have hg : l[pre.length]? = some (xa, xb) := by simp [hl]
    have hll : len = pre.length + (suf.length + 1) := by rw [hlen, hl]; simp
    obtain ⟨q2, _, _⟩ := pairs_get hg
    have k2 : ∀ σ, cellsAt σ (.lp (pairs l) (pre.length * 2)) 2 = some [.int .i64 xa, .int .i64 xb] := fun σ => q2
    have ct : ∀ σ, callI TT 122 [.agg [.int .i64 xa, .int .i64 xb]] σ = some (.agg [.int .i64 xa, .int .i64 xb], σ) := fun σ => v122 xa xb σ _ rfl
    obtain ⟨σ1, hst, hr1⟩ := store_pairs (i := pre.length) (x := xa) (y := xb) hr (by simp)
    rw [show (pre ++ y :: z).set pre.length (xa, xb) = pre ++ [(xa, xb)] ++ z by simp] at hr1
    obtain ⟨σ', h1, h2⟩ := ih (pre ++ [(xa, xb)]) σ1 b z (by simp [hl]) (by simpa using hz) (by simpa using hr1)
    refine ⟨σ', ?_, h2⟩
    have hlt : ¬ len ≤ pre.length := by omega
    have hlt2 : pre.length < len := by omega
    have hw := wrapS (n := pre.length) (by omega)
    simp only [show (pre ++ [(xa, xb)]).length = pre.length + 1 by simp, Int.natCast_add, show ((1 : Nat) : Int) = 1 from rfl] at h1
    rw [fi69] at h1 ⊢
    rw [xl69_0]
    simp only [B69_0, b69, Try.f69, Option.getD, fstC, sndC, bodyC, thnC, elsC]
    simp [xI_seq, xI_region, xI_ret, regA, regOps, runOps, opStep, wantedA, opA, evo, evos, calleeA, lk, nif_eq, putE, paramsE, valS, val2, keepE, restrict, finA, resA, binA, binInt, ofConst, ofConst1, loadA, TK.isAgg, asVar, unA, builtinA, lenOpA, lenA, ileb_cast, ileb_eq, ieqb_dec, indexAddrA, inB_dec, evPairs, storeA, AV.cellsOf, pairsOf, xI_nil, binBool, gcE, evOpt, xI_block, xI_loopH, xI_condM, xI_exitM, xI_skip, xI_blk, exitA, ty3, ty74, ty76, ty80, ty143, eK69_0_0, fieldAddrA, allOne, AV.one, ty2, ty33, ty41, ty74, ty76, ty80, ty143, hw, hlt, hlt2, k2, ct, hst]
    exact h1
theorem v69 (l : List (Int × Int)) (hs : l.length ≤ 1048576) : FnF TT 69 [.lst l.length (pairs l)] (.lst l.length (pairs l)) := by
  have hm : makeSliceA TT ⟨[], 0⟩ 74 (.int .i64 l.length) (.int .i64 l.length) = some (.sl 0 0 l.length l.length, (⟨[], 0⟩ : St).push ⟨pairs (List.replicate l.length (0, 0)), 2, false⟩) := by
    unfold makeSliceA
    simp only [ty74, ty76]
    rw [if_pos ⟨by omega, by omega, by omega, by omega⟩]
    simp [rep_pairs]
  obtain ⟨σ', h1, h2⟩ := l69 l l.length rfl hs l [] ((⟨[], 0⟩ : St).push ⟨pairs (List.replicate l.length (0, 0)), 2, false⟩) 0 (List.replicate l.length (0, 0)) rfl (by simp) ⟨false, rfl, Nat.lt_succ_self _⟩
  refine FnF.mk fn69 rfl md69 ⟨σ', .sl 0 0 l.length l.length, ?_, h2.frz (d := 4)⟩
  simp only [List.length_nil, Int.natCast_zero, show ((0 : Nat) : Int) = 0 from rfl] at h1
  generalize l.length = n at *
  rw [← h1, fi69]
  simp [xI_seq, xI_region, xI_ret, regA, regOps, runOps, opStep, wantedA, opA, evo, evos, calleeA, lk, nif_eq, putE, paramsE, valS, val2, keepE, restrict, finA, resA, binA, binInt, ofConst, ofConst1, loadA, TK.isAgg, asVar, unA, builtinA, lenOpA, lenA, ileb_cast, ileb_eq, ieqb_dec, indexAddrA, inB_dec, evPairs, storeA, AV.cellsOf, pairsOf, xI_nil, binBool, gcE, evOpt, xI_block, xI_loopH, xI_condM, xI_exitM, xI_skip, xI_blk, exitA, ty3, ty74, ty76, ty80, ty143, eK69_0_0, hm]
  rfl

noncomputable def b70 : Code := Try.f70.body.getD .skip
noncomputable def B70_0 : Code := (bodyC (bodyC (sndC (fstC (sndC (sndC b70))))))
noncomputable def K70_0 : List It := .lp B70_0 :: .blk 0 :: .code (sndC (sndC (sndC b70))) :: []
theorem xl70_0 {fi : FI} {env : Env} {σ : St} : exI TT fi K70_0 env σ = exI TT fi (.code B70_0 :: K70_0) env σ := by unfold K70_0; exact xI_lp
noncomputable def R70_0_0 : List It := .code (sndC (sndC (sndC b70))) :: []
theorem eK70_0_0 : exitA 0 K70_0 = some R70_0_0 := rfl
theorem l70 (l : List (Int × Int)) (len : Nat) (hlen : len = l.length) (hs : len ≤ 1048576) (σ : St) : ∀ (suf pre : List (Int × Int)), l = pre ++ suf →
    exI TT (FI.of Try.f70 (TT.an 70)) K70_0 [(0, .lst len (pairs l)), (1, .lst len (pairs l)), (5, .int .i64 pre.length)] σ = some (.bool true, σ) := by
  intro suf
  induction suf with
  | nil =>
    intro pre hl
    have hll : len = pre.length := by rw [hlen, hl]; simp
    subst hll
    rw [fi70]
    rw [xl70_0]
    simp only [B70_0, b70, Try.f70, Option.getD, fstC, sndC, bodyC, thnC, elsC]
    simp [xI_seq, xI_region, xI_ret, regA, regOps, runOps, opStep, wantedA, opA, evo, evos, calleeA, lk, nif_eq, putE, paramsE, valS, val2, keepE, restrict, finA, resA, binA, binInt, ofConst, ofConst1, loadA, TK.isAgg, asVar, unA, builtinA, lenOpA, lenA, ileb_cast, ileb_eq, ieqb_dec, indexAddrA, inB_dec, evPairs, storeA, AV.cellsOf, pairsOf, xI_nil, binBool, gcE, evOpt, xI_block, xI_loopH, xI_condM, xI_exitM, xI_skip, xI_blk, exitA, ty3, ty4, ty74, ty76, eK70_0_0]
    simp only [R70_0_0, b70, Try.f70, Option.getD, fstC, sndC, bodyC, thnC, elsC]
    simp [xI_seq, xI_region, xI_ret, regA, regOps, runOps, opStep, wantedA, opA, evo, evos, calleeA, lk, nif_eq, putE, paramsE, valS, val2, keepE, restrict, finA, resA, binA, binInt, ofConst, ofConst1, loadA, TK.isAgg, asVar, unA, builtinA, lenOpA, lenA, ileb_cast, ileb_eq, ieqb_dec, indexAddrA, inB_dec, evPairs, storeA, AV.cellsOf, pairsOf, xI_nil, binBool, gcE, evOpt, xI_block, xI_loopH, xI_condM, xI_exitM, xI_skip, xI_blk, exitA, ty3, ty4, ty74, ty76, eK70_0_0]
  | cons x suf ih =>
    intro pre hl
    obtain ⟨xa, xb⟩ := x
    have hg : l[pre.length]? = some (xa, xb) := by simp [hl]
    have hll : len = pre.length + (suf.length + 1) := by rw [hlen, hl]; simp
    obtain ⟨q2, _, _⟩ := pairs_get hg
    have k2 : ∀ σ, cellsAt σ (.lp (pairs l) (pre.length * 2)) 2 = some [.int .i64 xa, .int .i64 xb] := fun σ => q2
    have ct : ∀ σ, callI TT 123 [.agg [.int .i64 xa, .int .i64 xb], .agg [.int .i64 xa, .int .i64 xb]] σ = some (.bool true, σ) := fun σ => v123 xa xb σ _ rfl
    have h1 := ih (pre ++ [(xa, xb)]) (by simp [hl])
    have hlt : ¬ len ≤ pre.length := by omega
    have hlt2 : pre.length < len := by omega
    have hw := wrapS (n := pre.length) (by omega)
    simp only [show (pre ++ [(xa, xb)]).length = pre.length + 1 by simp, Int.natCast_add, show ((1 : Nat) : Int) = 1 from rfl] at h1
    rw [fi70] at h1 ⊢
    rw [xl70_0]
    simp only [B70_0, b70, Try.f70, Option.getD, fstC, sndC, bodyC, thnC, elsC]
    simp [xI_seq, xI_region, xI_ret, regA, regOps, runOps, opStep, wantedA, opA, evo, evos, calleeA, lk, nif_eq, putE, paramsE, valS, val2, keepE, restrict, finA, resA, binA, binInt, ofConst, ofConst1, loadA, TK.isAgg, asVar, unA, builtinA, lenOpA, lenA, ileb_cast, ileb_eq, ieqb_dec, indexAddrA, inB_dec, evPairs, storeA, AV.cellsOf, pairsOf, xI_nil, binBool, gcE, evOpt, xI_block, xI_loopH, xI_condM, xI_exitM, xI_skip, xI_blk, exitA, ty3, ty4, ty74, ty76, eK70_0_0, runTr, pairsOk, pairOk, lstAt, lastOf, sameVal, AV.eqv, eqvs, eqvs_ints, regOps, blt_dec, cond_true, cond_false, fieldAddrA, allOne, AV.one, ty2, ty33, ty41, ty74, ty76, ty80, ty143, hw, hlt, hlt2, k2, ct]
    exact h1
theorem v70 (l : List (Int × Int)) (hs : l.length ≤ 1048576) : FnV TT 70 [.lst l.length (pairs l), .lst l.length (pairs l)] (.bool true) := by
  have h1 := l70 l l.length rfl hs ⟨[], 0⟩ l [] rfl
  refine FnV.mk fn70 rfl md70 ⟨⟨[], 0⟩, ?_⟩ (fun _ => rfl) rfl
  simp only [List.length_nil, Int.natCast_zero, show ((0 : Nat) : Int) = 0 from rfl] at h1
  generalize l.length = n at *
  rw [← h1, fi70]
  simp [xI_seq, xI_region, xI_ret, regA, regOps, runOps, opStep, wantedA, opA, evo, evos, calleeA, lk, nif_eq, putE, paramsE, valS, val2, keepE, restrict, finA, resA, binA, binInt, ofConst, ofConst1, loadA, TK.isAgg, asVar, unA, builtinA, lenOpA, lenA, ileb_cast, ileb_eq, ieqb_dec, indexAddrA, inB_dec, evPairs, storeA, AV.cellsOf, pairsOf, xI_nil, binBool, gcE, evOpt, xI_block, xI_loopH, xI_condM, xI_exitM, xI_skip, xI_blk, exitA, ty3, ty4, ty74, ty76, eK70_0_0]
  rfl

set_option maxHeartbeats 2000000 in
theorem w21 (w : Int) (l : List Int) (o : Int) (S : List (Int × Int)) (hn0 : l.length ≤ 9223372036854775807) (hS0 : S.length ≤ 9223372036854775807) : FnV TT 21 [.agg (lin w l o), .lst S.length (pairs S)] (.bool true) := by
  refine FnV.mk fn21 rfl md21 ?_ (fun _ => rfl) rfl
  rw [fi21]
  have hsz : ∀ σ : St, callI TT 30 [.agg (lin w l o), .int .i64 1048576] σ = some (.int .i64 (if l.length ≤ 1048576 then (1048576 : Int) - l.length else -1), σ) := fun σ => v30 w l o 1048576 hn0 (by decide) σ _ rfl
  by_cases hbig : l.length ≤ 1048576
  · obtain ⟨m, hm⟩ : ∃ m : Nat, (1048576 : Int) - l.length = m := ⟨1048576 - l.length, by omega⟩
    simp only [if_pos hbig, hm] at hsz
    have h1 : ¬ ((m : Int) < 0) := by omega
    have hsz2 : ∀ σ : St, callI TT 67 [.lst S.length (pairs S), .int .i64 m] σ = some (.int .i64 (if S.length ≤ m then (m : Int) - S.length else -1), σ) := fun σ => v67 S.length m (pairs S) hS0 (by omega) σ _ rfl
    by_cases hbig2 : S.length ≤ m
    · have hl : l.length < 3000000 := by omega
      have hn : l.length < 1000000000000 := by omega
      have hSl : S.length < 1000000000000 := by omega
      have hto : ∀ σ : St, callI TT 32 [.agg (lin w l o)] σ = some (.agg (lin w l o), σ) := fun σ => tol32 w l o hn σ _ rfl rfl
      have heq : ∀ σ : St, callI TT 34 [.agg (lin w l o), .agg (lin w l o)] σ = some (.bool true, σ) := fun σ => v34 w l o hn σ _ rfl
      have hts : ∀ σ : St, callI TT 69 [.lst S.length (pairs S)] σ = some (.lst S.length (pairs S), σ) := fun σ => v69 S (by omega) σ _ rfl rfl
      have hes : ∀ σ : St, callI TT 70 [.lst S.length (pairs S), .lst S.length (pairs S)] σ = some (.bool true, σ) := fun σ => v70 S (by omega) σ _ rfl
      have hS : ∀ σ : St, callI TT 71 [.agg (lin w l o), .lst S.length (pairs S)] σ = some (stV (stB w l o S), σ) := fun σ => v71 w l o S  hn hSl σ _ rfl
      have hI : ∀ σ : St, callI TT 64 [.agg (lin w l o), .lst S.length (pairs S)] σ = some (stV (stB w l o S), σ) := fun σ => v64 w l o S  hl hSl σ _ rfl
      have h3 : ¬ ((m : Int) - S.length < 0) := by omega
      have h4 : ¬ ((m : Int) < S.length) := by omega
      have h5 : ¬ (m < S.length) := by omega
      simp only [if_pos hbig2] at hsz2
      clear hm
      simp only [lin] at hsz hto heq hS hI ⊢
      generalize S.length = sl at *
      cases hr : stB w l o S with
      | none =>
        simp only [hr, stV, pdV] at hS hI
        simp [xI_seq, xI_region, xI_ret, regA, regOps, runOps, opStep, wantedA, opA, evo, evos, calleeA, lk, nif_eq, putE, paramsE, valS, val2, keepE, restrict, finA, resA, binA, binInt, ofConst, ofConst1, loadA, TK.isAgg, asVar, unA, builtinA, lenOpA, lenA, ileb_cast, ileb_eq, ieqb_dec, indexAddrA, inB_dec, evPairs, storeA, AV.cellsOf, pairsOf, xI_nil, binBool, gcE, evOpt, xI_block, xI_loopH, xI_condM, xI_exitM, xI_skip, xI_blk, exitA, ty2, ty3, ty4, ty38, ty41, cellsAt, getCells, takeN, dropN, fieldAddrA, allOne, AV.one, n_push, storeCellsA, putN, overN, ty2, ty33, ty38, ty41, St.push, St.get, St.set, hget, hset, runTr, pairsOk, pairOk, lstAt, lastOf, sameVal, AV.eqv, eqvs, eqvs_ints, regOps, blt_dec, cond_true, cond_false, hsz, hsz2, hto, heq, hts, hes, hS, hI, h1, h3, h4, h5]
      | some r =>
        obtain ⟨r1, r2⟩ := r
        simp only [hr, stV, pdV] at hS hI
        simp [xI_seq, xI_region, xI_ret, regA, regOps, runOps, opStep, wantedA, opA, evo, evos, calleeA, lk, nif_eq, putE, paramsE, valS, val2, keepE, restrict, finA, resA, binA, binInt, ofConst, ofConst1, loadA, TK.isAgg, asVar, unA, builtinA, lenOpA, lenA, ileb_cast, ileb_eq, ieqb_dec, indexAddrA, inB_dec, evPairs, storeA, AV.cellsOf, pairsOf, xI_nil, binBool, gcE, evOpt, xI_block, xI_loopH, xI_condM, xI_exitM, xI_skip, xI_blk, exitA, ty2, ty3, ty4, ty38, ty41, cellsAt, getCells, takeN, dropN, fieldAddrA, allOne, AV.one, n_push, storeCellsA, putN, overN, ty2, ty33, ty38, ty41, St.push, St.get, St.set, hget, hset, runTr, pairsOk, pairOk, lstAt, lastOf, sameVal, AV.eqv, eqvs, eqvs_ints, regOps, blt_dec, cond_true, cond_false, hsz, hsz2, hto, heq, hts, hes, hS, hI, h1, h3, h4, h5]
    · simp only [if_neg hbig2] at hsz2
      clear hm
      simp only [lin] at hsz ⊢
      generalize S.length = sl at *
      simp [xI_seq, xI_region, xI_ret, regA, regOps, runOps, opStep, wantedA, opA, evo, evos, calleeA, lk, nif_eq, putE, paramsE, valS, val2, keepE, restrict, finA, resA, binA, binInt, ofConst, ofConst1, loadA, TK.isAgg, asVar, unA, builtinA, lenOpA, lenA, ileb_cast, ileb_eq, ieqb_dec, indexAddrA, inB_dec, evPairs, storeA, AV.cellsOf, pairsOf, xI_nil, binBool, gcE, evOpt, xI_block, xI_loopH, xI_condM, xI_exitM, xI_skip, xI_blk, exitA, ty2, ty3, ty4, ty38, ty41, cellsAt, getCells, takeN, dropN, fieldAddrA, allOne, AV.one, n_push, storeCellsA, putN, overN, ty2, ty33, ty38, ty41, St.push, St.get, St.set, hget, hset, runTr, pairsOk, pairOk, lstAt, lastOf, sameVal, AV.eqv, eqvs, eqvs_ints, regOps, blt_dec, cond_true, cond_false, hsz, hsz2, h1]
  · simp only [if_neg hbig] at hsz
    simp only [lin] at hsz ⊢
    simp [xI_seq, xI_region, xI_ret, regA, regOps, runOps, opStep, wantedA, opA, evo, evos, calleeA, lk, nif_eq, putE, paramsE, valS, val2, keepE, restrict, finA, resA, binA, binInt, ofConst, ofConst1, loadA, TK.isAgg, asVar, unA, builtinA, lenOpA, lenA, ileb_cast, ileb_eq, ieqb_dec, indexAddrA, inB_dec, evPairs, storeA, AV.cellsOf, pairsOf, xI_nil, binBool, gcE, evOpt, xI_block, xI_loopH, xI_condM, xI_exitM, xI_skip, xI_blk, exitA, ty2, ty3, ty4, ty38, ty41, cellsAt, getCells, takeN, dropN, fieldAddrA, allOne, AV.one, n_push, storeCellsA, putN, overN, ty2, ty33, ty38, ty41, St.push, St.get, St.set, hget, hset, runTr, pairsOk, pairOk, lstAt, lastOf, sameVal, AV.eqv, eqvs, eqvs_ints, regOps, blt_dec, cond_true, cond_false, hsz]

set_option maxHeartbeats 2000000 in
theorem w20 (w : Int) (l : List Int) (o : Int) (S : List (Int × Int)) (at_ : Int) (hn0 : l.length ≤ 9223372036854775807) (hS0 : S.length ≤ 9223372036854775807) : FnV TT 20 [.agg (lin w l o), .lst S.length (pairs S), .int .i64 at_] (.bool true) := by
  refine FnV.mk fn20 rfl md20 ?_ (fun _ => rfl) rfl
  rw [fi20]
  have hsz : ∀ σ : St, callI TT 30 [.agg (lin w l o), .int .i64 1048576] σ = some (.int .i64 (if l.length ≤ 1048576 then (1048576 : Int) - l.length else -1), σ) := fun σ => v30 w l o 1048576 hn0 (by decide) σ _ rfl
  by_cases hbig : l.length ≤ 1048576
  · obtain ⟨m, hm⟩ : ∃ m : Nat, (1048576 : Int) - l.length = m := ⟨1048576 - l.length, by omega⟩
    simp only [if_pos hbig, hm] at hsz
    have h1 : ¬ ((m : Int) < 0) := by omega
    have hsz2 : ∀ σ : St, callI TT 67 [.lst S.length (pairs S), .int .i64 m] σ = some (.int .i64 (if S.length ≤ m then (m : Int) - S.length else -1), σ) := fun σ => v67 S.length m (pairs S) hS0 (by omega) σ _ rfl
    by_cases hbig2 : S.length ≤ m
    · have hl : l.length < 3000000 := by omega
      have hn : l.length < 1000000000000 := by omega
      have hSl : S.length < 1000000000000 := by omega
      have hto : ∀ σ : St, callI TT 32 [.agg (lin w l o)] σ = some (.agg (lin w l o), σ) := fun σ => tol32 w l o hn σ _ rfl rfl
      have heq : ∀ σ : St, callI TT 34 [.agg (lin w l o), .agg (lin w l o)] σ = some (.bool true, σ) := fun σ => v34 w l o hn σ _ rfl
      have hts : ∀ σ : St, callI TT 69 [.lst S.length (pairs S)] σ = some (.lst S.length (pairs S), σ) := fun σ => v69 S (by omega) σ _ rfl rfl
      have hes : ∀ σ : St, callI TT 70 [.lst S.length (pairs S), .lst S.length (pairs S)] σ = some (.bool true, σ) := fun σ => v70 S (by omega) σ _ rfl
      have hS : ∀ σ : St, callI TT 68 [.agg (lin w l o), .lst S.length (pairs S), .int .i64 at_] σ = some (pdV (pdB w l o S at_), σ) := fun σ => v68 w l o S at_ hn hSl σ _ rfl
      have hI : ∀ σ : St, callI TT 65 [.agg (lin w l o), .lst S.length (pairs S), .int .i64 at_] σ = some (pdV (pdB w l o S at_), σ) := fun σ => v65 w l o S at_ hl hSl σ _ rfl
      have h3 : ¬ ((m : Int) - S.length < 0) := by omega
      have h4 : ¬ ((m : Int) < S.length) := by omega
      have h5 : ¬ (m < S.length) := by omega
      simp only [if_pos hbig2] at hsz2
      clear hm
      simp only [lin] at hsz hto heq hS hI ⊢
      generalize S.length = sl at *
      cases hr : pdB w l o S at_ with
      | none =>
        simp only [hr, stV, pdV] at hS hI
        simp [xI_seq, xI_region, xI_ret, regA, regOps, runOps, opStep, wantedA, opA, evo, evos, calleeA, lk, nif_eq, putE, paramsE, valS, val2, keepE, restrict, finA, resA, binA, binInt, ofConst, ofConst1, loadA, TK.isAgg, asVar, unA, builtinA, lenOpA, lenA, ileb_cast, ileb_eq, ieqb_dec, indexAddrA, inB_dec, evPairs, storeA, AV.cellsOf, pairsOf, xI_nil, binBool, gcE, evOpt, xI_block, xI_loopH, xI_condM, xI_exitM, xI_skip, xI_blk, exitA, ty2, ty3, ty4, ty38, ty41, cellsAt, getCells, takeN, dropN, fieldAddrA, allOne, AV.one, n_push, storeCellsA, putN, overN, ty2, ty33, ty38, ty41, St.push, St.get, St.set, hget, hset, runTr, pairsOk, pairOk, lstAt, lastOf, sameVal, AV.eqv, eqvs, eqvs_ints, regOps, blt_dec, cond_true, cond_false, hsz, hsz2, hto, heq, hts, hes, hS, hI, h1, h3, h4, h5]
      | some r =>
        skip
        simp only [hr, stV, pdV] at hS hI
        simp [xI_seq, xI_region, xI_ret, regA, regOps, runOps, opStep, wantedA, opA, evo, evos, calleeA, lk, nif_eq, putE, paramsE, valS, val2, keepE, restrict, finA, resA, binA, binInt, ofConst, ofConst1, loadA, TK.isAgg, asVar, unA, builtinA, lenOpA, lenA, ileb_cast, ileb_eq, ieqb_dec, indexAddrA, inB_dec, evPairs, storeA, AV.cellsOf, pairsOf, xI_nil, binBool, gcE, evOpt, xI_block, xI_loopH, xI_condM, xI_exitM, xI_skip, xI_blk, exitA, ty2, ty3, ty4, ty38, ty41, cellsAt, getCells, takeN, dropN, fieldAddrA, allOne, AV.one, n_push, storeCellsA, putN, overN, ty2, ty33, ty38, ty41, St.push, St.get, St.set, hget, hset, runTr, pairsOk, pairOk, lstAt, lastOf, sameVal, AV.eqv, eqvs, eqvs_ints, regOps, blt_dec, cond_true, cond_false, hsz, hsz2, hto, heq, hts, hes, hS, hI, h1, h3, h4, h5]
    · simp only [if_neg hbig2] at hsz2
      clear hm
      simp only [lin] at hsz ⊢
      generalize S.length = sl at *
      simp [xI_seq, xI_region, xI_ret, regA, regOps, runOps, opStep, wantedA, opA, evo, evos, calleeA, lk, nif_eq, putE, paramsE, valS, val2, keepE, restrict, finA, resA, binA, binInt, ofConst, ofConst1, loadA, TK.isAgg, asVar, unA, builtinA, lenOpA, lenA, ileb_cast, ileb_eq, ieqb_dec, indexAddrA, inB_dec, evPairs, storeA, AV.cellsOf, pairsOf, xI_nil, binBool, gcE, evOpt, xI_block, xI_loopH, xI_condM, xI_exitM, xI_skip, xI_blk, exitA, ty2, ty3, ty4, ty38, ty41, cellsAt, getCells, takeN, dropN, fieldAddrA, allOne, AV.one, n_push, storeCellsA, putN, overN, ty2, ty33, ty38, ty41, St.push, St.get, St.set, hget, hset, runTr, pairsOk, pairOk, lstAt, lastOf, sameVal, AV.eqv, eqvs, eqvs_ints, regOps, blt_dec, cond_true, cond_false, hsz, hsz2, h1]
  · simp only [if_neg hbig] at hsz
    simp only [lin] at hsz ⊢
    simp [xI_seq, xI_region, xI_ret, regA, regOps, runOps, opStep, wantedA, opA, evo, evos, calleeA, lk, nif_eq, putE, paramsE, valS, val2, keepE, restrict, finA, resA, binA, binInt, ofConst, ofConst1, loadA, TK.isAgg, asVar, unA, builtinA, lenOpA, lenA, ileb_cast, ileb_eq, ieqb_dec, indexAddrA, inB_dec, evPairs, storeA, AV.cellsOf, pairsOf, xI_nil, binBool, gcE, evOpt, xI_block, xI_loopH, xI_condM, xI_exitM, xI_skip, xI_blk, exitA, ty2, ty3, ty4, ty38, ty41, cellsAt, getCells, takeN, dropN, fieldAddrA, allOne, AV.one, n_push, storeCellsA, putN, overN, ty2, ty33, ty38, ty41, St.push, St.get, St.set, hget, hset, runTr, pairsOk, pairOk, lstAt, lastOf, sameVal, AV.eqv, eqvs, eqvs_ints, regOps, blt_dec, cond_true, cond_false, hsz]

open Go.Wd
noncomputable def b18 : Code := Try.f18.body.getD .skip
noncomputable def B18_0 : Code := (bodyC (bodyC (sndC (fstC (sndC (sndC (sndC (sndC b18))))))))
noncomputable def K18_0 : List It := .lp B18_0 :: .blk 0 :: .code (sndC (sndC (sndC (sndC (sndC b18))))) :: []
theorem xl18_0 {fi : FI} {env : Env} {σ : St} : exI TT fi K18_0 env σ = exI TT fi (.code B18_0 :: K18_0) env σ := by unfold K18_0; exact xI_lp
noncomputable def R18_0_0 : List It := .code (sndC (sndC (sndC (sndC (sndC b18))))) :: []
theorem eK18_0_0 : exitA 0 K18_0 = some R18_0_0 := rfl
noncomputable def B18_1 : Code := (bodyC (bodyC (sndC (fstC (sndC (sndC (sndC (sndC (sndC (sndC (sndC (sndC (sndC (sndC (sndC b18)))))))))))))))
noncomputable def K18_1 : List It := .lp B18_1 :: .blk 2 :: .code (sndC (sndC (sndC (sndC (sndC (sndC (sndC (sndC (sndC (sndC (sndC (sndC b18)))))))))))) :: []
theorem xl18_1 {fi : FI} {env : Env} {σ : St} : exI TT fi K18_1 env σ = exI TT fi (.code B18_1 :: K18_1) env σ := by unfold K18_1; exact xI_lp
noncomputable def R18_1_2 : List It := .code (sndC (sndC (sndC (sndC (sndC (sndC (sndC (sndC (sndC (sndC (sndC (sndC b18)))))))))))) :: []
theorem eK18_1_2 : exitA 2 K18_1 = some R18_1_2 := rfl
noncomputable def B18_2 : Code := (bodyC (bodyC (sndC (fstC (sndC (sndC (sndC (bodyC (fstC (sndC (bodyC (bodyC (sndC (fstC (sndC (sndC (sndC (sndC (sndC (sndC (sndC (sndC (sndC (sndC (sndC b18)))))))))))))))))))))))))
noncomputable def K18_2 : List It := .lp B18_2 :: .blk 4 :: .code (sndC (sndC (sndC (sndC (bodyC (fstC (sndC (bodyC (bodyC (sndC (fstC (sndC (sndC (sndC (sndC (sndC (sndC (sndC (sndC (sndC (sndC (sndC b18)))))))))))))))))))))) :: .blk 3 :: .code (sndC (sndC (bodyC (bodyC (sndC (fstC (sndC (sndC (sndC (sndC (sndC (sndC (sndC (sndC (sndC (sndC (sndC b18))))))))))))))))) :: K18_1
theorem xl18_2 {fi : FI} {env : Env} {σ : St} : exI TT fi K18_2 env σ = exI TT fi (.code B18_2 :: K18_2) env σ := by unfold K18_2; exact xI_lp
noncomputable def R18_2_4 : List It := .code (sndC (sndC (sndC (sndC (bodyC (fstC (sndC (bodyC (bodyC (sndC (fstC (sndC (sndC (sndC (sndC (sndC (sndC (sndC (sndC (sndC (sndC (sndC b18)))))))))))))))))))))) :: .blk 3 :: .code (sndC (sndC (bodyC (bodyC (sndC (fstC (sndC (sndC (sndC (sndC (sndC (sndC (sndC (sndC (sndC (sndC (sndC b18))))))))))))))))) :: K18_1
theorem eK18_2_4 : exitA 4 K18_2 = some R18_2_4 := rfl
noncomputable def R18_2_3 : List It := .code (sndC (sndC (bodyC (bodyC (sndC (fstC (sndC (sndC (sndC (sndC (sndC (sndC (sndC (sndC (sndC (sndC (sndC b18))))))))))))))))) :: K18_1
theorem eK18_2_3 : exitA 3 K18_2 = some R18_2_3 := rfl
theorem eK18_2_2 : exitA 2 K18_2 = some R18_1_2 := rfl
theorem bsP0 (σ : St) : buildSliceA TT σ 74 0 [] = some (.sl σ.n 0 0 0, σ.push ⟨pairs [], 2, false⟩) := by
  simp [buildSliceA, ty74, ty76, fillA, repeatCells, pairs]
theorem bsP1 (σ : St) (a c : Int) : buildSliceA TT σ 74 1 [(0, .agg [.int .i64 a, .int .i64 c])] = some (.sl σ.n 0 1 1, σ.push ⟨[.int .i64 a, .int .i64 c], 2, false⟩) := by
  simp [buildSliceA, ty74, ty76, fillA, repeatCells, putCells, AV.cellsOf, allOne, AV.one]
theorem pairs_append : ∀ (l : List (Int × Int)) (a c : Int), pairs (l ++ [(a, c)]) = pairs l ++ [.int .i64 a, .int .i64 c]
  | [], _, _ => rfl
  | (x, y) :: r, a, c => by simp only [List.cons_append, pairs, pairs_append r a c]
theorem papp {σ : St} {b n : Nat} {l : List (Int × Int)} {a c : Int} (hb : PRow σ b l) (hn : n = l.length) (hs : n < 1000000000) :
    ∃ σ', appendA TT (σ.push ⟨[.int .i64 a, .int .i64 c], 2, false⟩) 74 74 (.sl b 0 n n) (.sl σ.n 0 1 1) = some (.sl (σ.n + 1) 0 (n + 1) (n + 1), σ') ∧ PRow σ' (σ.n + 1) (l ++ [(a, c)]) ∧ σ'.n = σ.n + 2 ∧ ∀ d, d ≠ b → d < σ.n → σ'.get d = σ.get d := by
  obtain ⟨o, hg, hlt⟩ := hb
  have h1 : firstA (σ.push ⟨[.int .i64 a, .int .i64 c], 2, false⟩) 2 1 (.sl σ.n 0 1 1) = some [.int .i64 a, .int .i64 c] := by
    simp [firstA, get_push_same, getCells, dropN, takeN]
  have hg2 : (σ.push ⟨[.int .i64 a, .int .i64 c], 2, false⟩).get b = some ⟨pairs l, 2, o⟩ := by rw [get_push_lt hlt]; exact hg
  have hz : getCells (pairs l) 0 (n * 2) = some (pairs l) := by
    rw [getCells_eq, if_pos (by rw [pairs_length]; omega), List.drop_zero, List.take_of_length_le (by rw [pairs_length]; omega)]
  refine ⟨(if o then (σ.push ⟨[.int .i64 a, .int .i64 c], 2, false⟩).del b else σ.push ⟨[.int .i64 a, .int .i64 c], 2, false⟩).push ⟨pairs (l ++ [(a, c)]), 2, true⟩, ?_, ⟨true, ?_, ?_⟩, ?_, ?_⟩
  · unfold appendA
    simp only [ty74, ty76, lenA, h1, allOne, AV.one, hg2, hz, pairs_length]
    rw [if_neg (by simp), if_neg (by omega), if_pos ⟨by omega, by omega, trivial, by omega, by omega⟩]
    cases o <;> simp [n_push, pairs_append]
  · cases o <;> exact get_push_same
  · cases o <;> simp [n_push, n_del]
  · cases o <;> rfl
  · intro d hd hdn
    have hq : ∀ τ : St, τ.n = σ.n + 1 → (τ.push ⟨pairs (l ++ [(a, c)]), 2, true⟩).get d = τ.get d := fun τ h => get_push_lt (by omega)
    cases o
    · simp only [Bool.false_eq_true, if_false]
      rw [hq _ rfl, get_push_lt hdn]
    · simp only [if_true]
      rw [hq _ rfl, get_del_ne (fun e => hd e.symm), get_push_lt hdn]
theorem PRow_push {σ : St} {l : List (Int × Int)} {o : Bool} : PRow (σ.push ⟨pairs l, 2, o⟩) σ.n l := ⟨o, get_push_same, Nat.lt_succ_self _⟩
theorem prow_get {σ : St} {b i a c : Nat} {S : List (Nat × Nat)} (h : PRow σ b (npairs S)) (hx : S[i]? = some (a, c)) : cellsAt σ (.ptr b (i * 2)) 1 = some [.int .i64 (a : Int)] ∧ cellsAt σ (.ptr b (i * 2 + 1)) 1 = some [.int .i64 (c : Int)] := by
  obtain ⟨o, hg, _⟩ := h
  obtain ⟨_, h2, h3⟩ := pairs_get (l := npairs S) (i := i) (a := (a : Int)) (b := (c : Int)) (by simp [npairs, hx])
  simp only [cellsAt, hg]
  exact ⟨h2, h3⟩
theorem npairs_append (S : List (Nat × Nat)) (a c : Nat) : npairs (S ++ [(a, c)]) = npairs S ++ [((a : Int), (c : Int))] := by simp [npairs]
/-! What is seen -/
theorem mk_par {A : List Nat} (hA : A.length ≤ 64) (o : Nat) : ∀ (i x : Nat), par (mk A o i &&& x) = par (o &&& steps A i x)
  | 0, x => rfl
  | i + 1, x => by
    show par (comb A (mk A o i) &&& x) = par (o &&& steps A i (app A x))
    rw [par_comb A _ x hA, mk_par hA o i (app A x)]
def fitS (A : List Nat) (k : Nat) (S : List (Nat × Nat)) (x : Nat) : Bool := S.all fun s => decide (par (andN k (steps A s.1 x)) = s.2)
theorem fitS_sol {A : List Nat} {k : Nat} (h : Mach A k) {S : List (Nat × Nat)} (hS : ∀ s ∈ S, s.2 ≤ 1) {x : Nat} (hx : x < pw A.length) : fitS A k S x = true ↔ SolS A.length (seqs A.length A k S) x := by
  have hw : A.length < 64 := by have := h.few; omega
  simp only [fitS, SolS, seqs, List.all_eq_true, List.mem_map, decide_eq_true_eq]
  constructor
  · rintro hf e ⟨s, hs, rfl⟩
    have := par_eqn hw (mk_lt h.rows h.out s.1) hx (hS s hs)
    rw [mk_par (by omega)] at this
    refine this.trans ?_
    rw [show par (k &&& steps A s.1 x) = s.2 from hf s hs, Nat.xor_self]
  · intro hf s hs
    have := par_eqn hw (mk_lt h.rows h.out s.1) hx (hS s hs)
    rw [mk_par (by omega)] at this
    have h0 := this.symm.trans (hf _ ⟨s, hs, rfl⟩)
    have hp := par_lt (k &&& steps A s.1 x)
    have h1 := hS s hs
    show par (k &&& steps A s.1 x) = s.2
    generalize par (k &&& steps A s.1 x) = a at *
    generalize s.2 = b at *
    rcases (show a = 0 ∨ a = 1 by omega) with rfl | rfl <;> rcases (show b = 0 ∨ b = 1 by omega) with rfl | rfl <;> simp at h0 ⊢
def oneS (A : List Nat) (k m x : Nat) : Bool := decide (par (andN k (steps A m x)) = 1)
theorem fitS_one {A : List Nat} {k m x : Nat} {S : List (Nat × Nat)} : fitS A k (S ++ [(m, 1)]) x = (fitS A k S x && oneS A k m x) := by simp [fitS, oneS]
theorem fitS_zero {A : List Nat} {k m x : Nat} {S : List (Nat × Nat)} : fitS A k (S ++ [(m, 0)]) x = (fitS A k S x && !oneS A k m x) := by
  have hp := par_lt (andN k (steps A m x))
  simp only [fitS, oneS, List.all_append, List.all_cons, List.all_nil, Bool.and_true]
  generalize par (andN k (steps A m x)) = a at *
  rcases (show a = 0 ∨ a = 1 by omega) with rfl | rfl <;> simp
/-- All that the machine of the reference and the states say. -/
theorem behind_all {A : List Nat} {k : Nat} (h : Mach A k) {S : List (Nat × Nat)} (hS : ∀ s ∈ S, s.1 ≤ 10000 ∧ s.2 ≤ 1) (m : Nat) :
    (addAll A.length [] (seqs A.length A k S) = none → C (fitS A k S) (pw A.length) = 0) ∧
    ∀ rows, addAll A.length [] (seqs A.length A k S) = some rows → 0 < C (fitS A k S) (pw A.length) ∧ C (fitS A k S) (pw A.length) = pw (A.length - rows.length) ∧ first (fitS A k S) (pw A.length) = (least A.length rows : Nat) ∧
      (lead A.length (reduced A.length rows (mk A k m)) = A.length → (shrN (reduced A.length rows (mk A k m)) A.length = 0 ∧ C (fun x => fitS A k S x && oneS A k m x) (pw A.length) = 0) ∨ (shrN (reduced A.length rows (mk A k m)) A.length = 1 ∧ C (fun x => fitS A k S x && oneS A k m x) (pw A.length) = C (fitS A k S) (pw A.length))) ∧
      (lead A.length (reduced A.length rows (mk A k m)) ≠ A.length → 0 < C (fun x => fitS A k S x && oneS A k m x) (pw A.length) ∧ C (fun x => fitS A k S x && oneS A k m x) (pw A.length) < C (fitS A k S) (pw A.length)) := by
  have hw : A.length < 64 := by have := h.few; omega
  have hb : ∀ e ∈ seqs A.length A k S, e < 2 ^ (A.length + 1) := seqs_lt h.rows h.out hS
  have hS1 : ∀ s ∈ S, s.2 ≤ 1 := fun s hs => (hS s hs).2
  have hm := mk_lt h.rows h.out m
  have sol : ∀ x, x < pw A.length → (fitS A k S x = true ↔ Sol A.length (seqs A.length A k S) (x ||| 2 ^ A.length)) := fun x hx => (fitS_sol h hS1 hx).trans (sol_full hx).symm
  have ofSol : ∀ {X : Nat}, Sol A.length (seqs A.length A k S) X → ∃ x, x < pw A.length ∧ fitS A k S x = true := fun {X} hX => by
    have lX : X % 2 ^ A.length < 2 ^ A.length := Nat.mod_lt _ (Nat.two_pow_pos _)
    refine ⟨_, lX, (sol _ lX).2 ?_⟩
    rw [← full_of hX.1 hX.2.1]; exact hX
  constructor
  · intro ha
    refine C_zero.2 fun x hx => ?_
    cases hf : fitS A k S x with
    | false => rfl
    | true => exact absurd ⟨_, by simpa using (sol x hx).1 hf⟩ (addAll_none hw _ [] (red_nil _) hb ha)
  · intro rows ha
    obtain ⟨_, _, h3, h4, h5⟩ := (addAll_can hw hb).2 rows ha
    obtain ⟨s1, s2, s3⟩ := least_sol hw h4
    have hl : fitS A k S (least A.length rows) = true := (sol _ s2).2 ((h5 _).1 s1)
    have hc0 := C_pos s2 hl
    refine ⟨hc0, ?_, ?_, ?_, ?_⟩
    · have e1 : C (fitS A k S) (pw A.length) = cnt A.length (solB A.length rows) := by
        show C _ (2 ^ A.length) = _
        rw [C_cnt]
        refine cnt_congr _ fun x hx => ?_
        rw [Bool.eq_iff_iff, solB_iff, sol x hx, ← h5, sol_full hx]
      have e2 := cnt_red hw rows h4
      rw [e1]
      have e3 : pw (A.length - rows.length) * 2 ^ rows.length = 2 ^ A.length := by
        show 2 ^ (A.length - rows.length) * 2 ^ rows.length = _
        rw [← Nat.pow_add, Nat.sub_add_cancel h3]
      exact Nat.eq_of_mul_eq_mul_right (Nat.two_pow_pos rows.length) (e2.trans e3.symm)
    · have hlow := h4.low
      have hmap := map_fst A.length rows
      have key : first (fun x => fitS A k S x && decide (x < pw A.length)) (pw A.length) = (least A.length rows : Nat) := by
        refine first_some (by simp [hl]; exact s2) (fun x hx => ?_) s2
        simp only [Bool.and_eq_true, decide_eq_true_eq] at hx
        have hX := (h5 _).2 ((sol x hx.2).1 hx.1)
        have := low_least hw hlow (X := least A.length rows ||| 2 ^ A.length) (Y := x ||| 2 ^ A.length) (by rw [hmap]; exact s1) (by rw [hmap]; exact hX) (fun i hi hn => by
          rw [full_low hi]
          refine s3 i fun hc => hn ?_
          obtain ⟨r, hr, rfl⟩ := List.mem_map.1 hc
          exact List.mem_map.2 ⟨(r, lead A.length r), List.mem_map.2 ⟨r, hr, rfl⟩, rfl⟩)
        refine Nat.le_of_not_lt fun hlt => ?_
        have a1 : least A.length rows ||| 2 ^ A.length = least A.length rows + 2 ^ A.length := by have := or_shift (b := 1) s2; simpa using this
        have a2 : x ||| 2 ^ A.length = x + 2 ^ A.length := by have := or_shift (b := 1) hx.2; simpa using this
        omega
      have cong : ∀ n, n ≤ pw A.length → first (fun x => fitS A k S x && decide (x < pw A.length)) n = first (fitS A k S) n := by
        intro n
        induction n with
        | zero => intro _; rfl
        | succ n ih =>
          intro hn
          have hd : decide (n < pw A.length) = true := by simp; omega
          simp only [first, ih (by omega), hd, Bool.and_true]
      rw [← cong _ (Nat.le_refl _)]; exact key
    all_goals
      have pr := predict hw hb ha hm
      have bound : ∀ b, b ≤ 1 → ∀ e ∈ seqs A.length A k (S ++ [(m, b)]), e < 2 ^ (A.length + 1) := fun b hb' e he => by
        rw [seqs_append] at he
        rcases List.mem_append.1 he with he | he
        · exact hb e he
        · rw [List.mem_singleton.1 he]; exact eqn_lt hm hb'
      have can1 : ∀ b, b ≤ 1 → (can A.length (seqs A.length A k (S ++ [(m, b)])) = true ↔ ∃ x, x < pw A.length ∧ fitS A k (S ++ [(m, b)]) x = true) := fun b hb' => by
        have hS2 : ∀ s ∈ S ++ [(m, b)], s.2 ≤ 1 := fun s hs => by
          rcases List.mem_append.1 hs with hs | hs
          · exact hS1 s hs
          · rw [List.mem_singleton.1 hs]; exact hb'
        rw [can_iff hw (bound b hb')]
        constructor
        · rintro ⟨X, hX⟩
          have lX : X % 2 ^ A.length < 2 ^ A.length := Nat.mod_lt _ (Nat.two_pow_pos _)
          refine ⟨_, lX, (fitS_sol h hS2 lX).2 ((sol_full lX).1 ?_)⟩
          rw [← full_of hX.1 hX.2.1]; exact hX
        · rintro ⟨x, hx, hf⟩
          exact ⟨_, (sol_full hx).2 ((fitS_sol h hS2 hx).1 hf)⟩
      have z0 := can1 0 (by decide)
      have z1 := can1 1 (by decide)
      rw [seqs_append] at z0 z1
      rw [show eqn A.length (mk A k m) 0 = mk A k m from eqn_zero _ _] at z0
      rw [show eqn A.length (mk A k m) 1 = mk A k m ||| 2 ^ A.length from eqn_one _ _] at z1
      simp only [fitS_zero] at z0
      simp only [fitS_one] at z1
      have sp := C_split (fitS A k S) (oneS A k m) (pw A.length)
    · intro hlead
      obtain ⟨p0, p1⟩ := pr.2 hlead
      rw [p0] at z0
      rw [p1] at z1
      simp only [decide_eq_true_eq] at z0 z1
      have d : shrN (reduced A.length rows (mk A k m)) A.length = reduced A.length rows (mk A k m) / 2 ^ A.length := rfl
      rw [d]
      generalize reduced A.length rows (mk A k m) / 2 ^ A.length = bit at *
      by_cases b0 : bit = 0
      · left
        refine ⟨b0, C_zero.2 fun x hx => ?_⟩
        cases hf : (fitS A k S x && oneS A k m x) with
        | false => rfl
        | true => have := z1.2 ⟨x, hx, hf⟩; omega
      · have n0 : C (fun x => fitS A k S x && !oneS A k m x) (pw A.length) = 0 := C_zero.2 fun x hx => by
          cases hf : (fitS A k S x && !oneS A k m x) with
          | false => rfl
          | true => exact absurd (z0.2 ⟨x, hx, hf⟩) b0
        right
        refine ⟨?_, by omega⟩
        refine z1.2 ⟨_, s2, ?_⟩
        rw [hl, Bool.true_and]
        cases ho : oneS A k m (least A.length rows) with
        | true => rfl
        | false => have := C_zero.1 n0 _ s2; simp [hl, ho] at this
    · intro hlead
      have hle := lead_le A.length (reduced A.length rows (mk A k m))
      obtain ⟨p0, p1⟩ := pr.1 (by omega)
      obtain ⟨x0, g1, g2⟩ := z0.1 p0
      obtain ⟨x1, g3, g4⟩ := z1.1 p1
      have c0 := C_pos (p := fun x => fitS A k S x && !oneS A k m x) g1 g2
      have c1 := C_pos (p := fun x => fitS A k S x && oneS A k m x) g3 g4
      exact ⟨c1, by omega⟩

theorem la18 (l : List Nat) (hl : ∀ x ∈ l, x < 256) (hll : l.length ≤ 1000) (n : Nat) (hn : n ≤ 100) (e0 : ∀ σ, callI TT 27 [.lst l.length (byts l), .int .i64 0, .int .i64 7] σ = some (.int .i64 n, σ)) (a x c : AV) : ∀ (m k : Nat) (S : List (Nat × Nat)) (b : Nat) (σ : St), k + m = n → S.length = k → (∀ s ∈ S, s.1 ≤ 11 ∧ s.2 ≤ 1) → PRow σ b (npairs S) → LINB σ 0 a x c → b ≠ 0 → 0 < σ.n →
    ∃ σ' b' S', exI TT (FI.of Try.f18 (TT.an 18)) K18_0 [(1, .lst l.length (byts l)), (5, .ptr 0 0), (6, .sl b 0 k k), (7, .int .i64 k)] σ = exI TT (FI.of Try.f18 (TT.an 18)) R18_0_0 [(1, .lst l.length (byts l)), (5, .ptr 0 0), (6, .sl b' 0 n n), (7, .int .i64 n), (31, .bool false)] σ' ∧ S'.length = n ∧ (∀ s ∈ S', s.1 ≤ 11 ∧ s.2 ≤ 1) ∧ PRow σ' b' (npairs S') ∧ LINB σ' 0 a x c := by
  intro m
  induction m with
  | zero =>
    intro k S b σ hk hS hB hr hL hb h0
    obtain rfl : k = n := by omega
    refine ⟨σ, b, S, ?_, hS, hB, hr, hL⟩
    rw [fi18]
    rw [xl18_0]
    simp only [B18_0, b18, Try.f18, Option.getD, fstC, sndC, bodyC, thnC, elsC]
    simp [xI_seq, xI_region, xI_ret, regA, regOps, runOps, opStep, wantedA, opA, evo, evos, calleeA, lk, nif_eq, putE, paramsE, valS, val2, keepE, restrict, finA, resA, binA, binInt, ofConst, ofConst1, loadA, TK.isAgg, asVar, unA, builtinA, lenOpA, lenA, ileb_cast, ileb_eq, ieqb_dec, indexAddrA, inB_dec, evPairs, storeA, AV.cellsOf, pairsOf, xI_nil, binBool, gcE, evOpt, xI_block, xI_loopH, xI_condM, xI_exitM, xI_skip, xI_blk, exitA, ty2, ty3, ty4, ty5, ty9, ty41, ty73, ty74, ty76, eK18_0_0, eK18_1_2, eK18_2_4, eK18_2_3, eK18_2_2, e0]
  | succ m ih =>
    intro k S b σ hk hS hB hr hL hb h0
    have hlt : ¬ n ≤ k := by omega
    have hlt' : ¬ (n : Int) ≤ (k : Int) := by omega
    have hlt2 : k < n := by omega
    have hw := wrapS (n := k) (by omega)
    have w1 : wrapA .i64 (2 * (k : Int)) = ((mulN 2 k : Nat) : Int) := n_wrap (a := mulN 2 k) (by show 2 * k ≤ _; omega)
    have w2 : wrapA .i64 (((mulN 2 k : Nat) : Int) + 1) = ((addN (mulN 2 k) 1 : Nat) : Int) := n_wrap (a := addN (mulN 2 k) 1) (by show 2 * k + 1 ≤ _; omega)
    have w3 : wrapA .i64 (((mulN 2 k : Nat) : Int) + 2) = ((addN (mulN 2 k) 2 : Nat) : Int) := n_wrap (a := addN (mulN 2 k) 2) (by show 2 * k + 2 ≤ _; omega)
    obtain ⟨r1, h1, e1⟩ := v27 l hl hll (addN (mulN 2 k) 1) (by show 2 * k + 1 ≤ _; omega) 12 (by decide)
    obtain ⟨r2, h2, e2⟩ := v27 l hl hll (addN (mulN 2 k) 2) (by show 2 * k + 2 ≤ _; omega) 2 (by decide)
    replace e1 := FnV.now e1 (fun _ => rfl)
    replace e2 := FnV.now e2 (fun _ => rfl)
    simp only [show ((12 : Nat) : Int) = 12 from rfl] at e1
    simp only [show ((2 : Nat) : Int) = 2 from rfl] at e2
    have h1 : r1 ≤ 11 := by simp at h1; omega
    have h2 : r2 ≤ 1 := by simp at h2; omega
    obtain ⟨σ1, hap, hr1, hn1, u1⟩ := papp (a := (r1 : Int)) (c := (r2 : Int)) hr (n := k) (by rw [npairs_length, hS]) (by omega)
    rw [← npairs_append] at hr1
    obtain ⟨σ', b', S', g1, g2, g3, g4, g5⟩ := ih (k + 1) (S ++ [(r1, r2)]) (σ.n + 1) σ1 (by omega) (by simp [hS]) (fun s hs => by
      rcases List.mem_append.1 hs with hs | hs
      · exact hB s hs
      · rw [List.mem_singleton.1 hs]; exact ⟨h1, h2⟩) hr1 (hL.keep (u1 0 (fun e => hb e.symm) h0)) (by omega) (by omega)
    refine ⟨σ', b', S', ?_, g2, g3, g4, g5⟩
    rw [← g1]
    generalize addN (mulN 2 k) 1 = i1 at *
    generalize addN (mulN 2 k) 2 = i2 at *
    generalize mulN 2 k = i0 at *
    rw [fi18]
    rw [xl18_0]
    simp only [B18_0, b18, Try.f18, Option.getD, fstC, sndC, bodyC, thnC, elsC]
    simp [xI_seq, xI_region, xI_ret, regA, regOps, runOps, opStep, wantedA, opA, evo, evos, calleeA, lk, nif_eq, putE, paramsE, valS, val2, keepE, restrict, finA, resA, binA, binInt, ofConst, ofConst1, loadA, TK.isAgg, asVar, unA, builtinA, lenOpA, lenA, ileb_cast, ileb_eq, ieqb_dec, indexAddrA, inB_dec, evPairs, storeA, AV.cellsOf, pairsOf, xI_nil, binBool, gcE, evOpt, xI_block, xI_loopH, xI_condM, xI_exitM, xI_skip, xI_blk, exitA, ty2, ty3, ty4, ty5, ty9, ty41, ty73, ty74, ty76, eK18_0_0, eK18_1_2, eK18_2_4, eK18_2_3, eK18_2_2, fieldAddrA, allOne, AV.one, indexA, ty2, ty3, ty4, ty5, ty9, ty29, ty33, ty41, ty73, ty74, ty76, e0, hlt, hlt', hlt2, hw, w1, w2, w3, e1, e2, buildA, sizesOf, fillA, putCells, bsP1, hap]

theorem lb18 {A : List Nat} {k : Nat} (x : Nat) (bits : List UInt8) (hbits : ∀ i, i < 14 → bits[i]? = some (bb (par (andN k (steps A i x))))) (S : List (Nat × Nat)) (hB : ∀ s ∈ S, s.1 ≤ 11 ∧ s.2 ≤ 1) (n : Nat) (hS : S.length = n) (hn : n ≤ 100) (b : Nat) (σ : St) (hr : PRow σ b (npairs S)) (v8 v9 v10 v11 v12 v13 v14 v15 v16 v17 : AV) : ∀ (suf pre : List (Nat × Nat)) (fl : Bool), S = pre ++ suf →
    exI TT (FI.of Try.f18 (TT.an 18)) K18_2 [(5, .ptr 0 0), (6, .sl b 0 n n), (8, v8), (9, v9), (10, v10), (11, v11), (12, v12), (13, v13), (14, v14), (15, v15), (16, v16), (17, v17), (18, .str bits), (20, .bool fl), (21, .int .i64 pre.length)] σ = exI TT (FI.of Try.f18 (TT.an 18)) R18_2_4 [(5, .ptr 0 0), (6, .sl b 0 n n), (8, v8), (9, v9), (10, v10), (11, v11), (12, v12), (13, v13), (14, v14), (15, v15), (16, v16), (17, v17), (18, .str bits), (20, .bool (fl && fitS A k suf x)), (21, .int .i64 n), (88, .bool false)] σ := by
  intro suf
  induction suf with
  | nil =>
    intro pre fl hp
    have hll : n = pre.length := by rw [← hS, hp]; simp
    subst hll
    simp only [fitS, List.all_nil, Bool.and_true]
    rw [fi18]
    rw [xl18_2]
    simp only [B18_2, b18, Try.f18, Option.getD, fstC, sndC, bodyC, thnC, elsC]
    simp [xI_seq, xI_region, xI_ret, regA, regOps, runOps, opStep, wantedA, opA, evo, evos, calleeA, lk, nif_eq, putE, paramsE, valS, val2, keepE, restrict, finA, resA, binA, binInt, ofConst, ofConst1, loadA, TK.isAgg, asVar, unA, builtinA, lenOpA, lenA, ileb_cast, ileb_eq, ieqb_dec, indexAddrA, inB_dec, evPairs, storeA, AV.cellsOf, pairsOf, xI_nil, binBool, gcE, evOpt, xI_block, xI_loopH, xI_condM, xI_exitM, xI_skip, xI_blk, exitA, ty2, ty3, ty4, ty5, ty9, ty41, ty73, ty74, ty76, eK18_0_0, eK18_1_2, eK18_2_4, eK18_2_3, eK18_2_2]
  | cons s suf ih =>
    intro pre fl hp
    obtain ⟨m, c⟩ := s
    have hll : n = pre.length + (suf.length + 1) := by rw [← hS, hp]; simp
    have hs := hB (m, c) (by rw [hp]; simp)
    obtain ⟨g1, g2⟩ := prow_get (i := pre.length) (a := m) (c := c) hr (by rw [hp]; simp)
    have hlt : ¬ n ≤ pre.length := by omega
    have hlt' : ¬ (n : Int) ≤ (pre.length : Int) := by omega
    have hlt2 : pre.length < n := by omega
    have hw := wrapS (n := pre.length) (by omega)
    have hget := hbits m (by have := hs.1; simp at this; omega)
    have hp2 := par_lt (andN k (steps A m x))
    have b1 := bb_off hp2
    have hm0 : (0 : Int) ≤ (m : Int) := by omega
    have h1 := ih (pre ++ [(m, c)]) (fl && decide (par (andN k (steps A m x)) = c)) (by simp [hp])
    rw [show (fl && fitS A k ((m, c) :: suf) x) = ((fl && decide (par (andN k (steps A m x)) = c)) && fitS A k suf x) by simp [fitS, Bool.and_assoc]]
    simp only [List.length_append, List.length_singleton] at h1
    have hdec : decide (((par (andN k (steps A m x)) : Nat) : Int) = (c : Int)) = decide (par (andN k (steps A m x)) = c) := by
      rw [decide_eq_decide]; omega
    generalize hq : decide (par (andN k (steps A m x)) = c) = dq at *
    generalize hpp : par (andN k (steps A m x)) = pp at *
    cases fl with
    | false =>
      simp only [Bool.false_and] at h1 ⊢
      rw [fi18] at h1 ⊢
      rw [xl18_2]
      simp only [B18_2, b18, Try.f18, Option.getD, fstC, sndC, bodyC, thnC, elsC]
      simp [xI_seq, xI_region, xI_ret, regA, regOps, runOps, opStep, wantedA, opA, evo, evos, calleeA, lk, nif_eq, putE, paramsE, valS, val2, keepE, restrict, finA, resA, binA, binInt, ofConst, ofConst1, loadA, TK.isAgg, asVar, unA, builtinA, lenOpA, lenA, ileb_cast, ileb_eq, ieqb_dec, indexAddrA, inB_dec, evPairs, storeA, AV.cellsOf, pairsOf, xI_nil, binBool, gcE, evOpt, xI_block, xI_loopH, xI_condM, xI_exitM, xI_skip, xI_blk, exitA, ty2, ty3, ty4, ty5, ty9, ty41, ty73, ty74, ty76, eK18_0_0, eK18_1_2, eK18_2_4, eK18_2_3, eK18_2_2, fieldAddrA, allOne, AV.one, indexA, ty2, ty3, ty4, ty5, ty9, ty29, ty33, ty41, ty73, ty74, ty76, hlt, hlt', hlt2, hw]
      simpa using h1
    | true =>
      simp only [Bool.true_and] at h1 ⊢
      rw [fi18] at h1 ⊢
      rw [xl18_2]
      simp only [B18_2, b18, Try.f18, Option.getD, fstC, sndC, bodyC, thnC, elsC]
      simp [xI_seq, xI_region, xI_ret, regA, regOps, runOps, opStep, wantedA, opA, evo, evos, calleeA, lk, nif_eq, putE, paramsE, valS, val2, keepE, restrict, finA, resA, binA, binInt, ofConst, ofConst1, loadA, TK.isAgg, asVar, unA, builtinA, lenOpA, lenA, ileb_cast, ileb_eq, ieqb_dec, indexAddrA, inB_dec, evPairs, storeA, AV.cellsOf, pairsOf, xI_nil, binBool, gcE, evOpt, xI_block, xI_loopH, xI_condM, xI_exitM, xI_skip, xI_blk, exitA, ty2, ty3, ty4, ty5, ty9, ty41, ty73, ty74, ty76, eK18_0_0, eK18_1_2, eK18_2_4, eK18_2_3, eK18_2_2, fieldAddrA, allOne, AV.one, indexA, ty2, ty3, ty4, ty5, ty9, ty29, ty33, ty41, ty73, ty74, ty76, convA, hlt, hlt', hlt2, hw, g1, g2, hm0, hget, b1, hdec]
      simpa using h1

theorem first_lt (p : Nat → Bool) : ∀ n : Nat, -1 ≤ first p n ∧ first p n < n
  | 0 => by simp [first]
  | n + 1 => by
    have := first_lt p n
    simp only [first]
    split <;> omega
theorem lc18 {A : List Nat} {k : Nat} (h : Mach A k) (S : List (Nat × Nat)) (hB : ∀ s ∈ S, s.1 ≤ 11 ∧ s.2 ≤ 1) (n : Nat) (hS : S.length = n) (hn : n ≤ 100) (m : Nat) (hm : m ≤ 13) (b : Nat) (σ : St) (hr : PRow σ b (npairs S)) (hL : LINB σ 0 (.int .i64 A.length) (.lst A.length (ints (nints A))) (.int .i64 k)) (v9 v10 v11 v12 v13 : AV) : ∀ (d x : Nat), x + d = pw A.length →
    exI TT (FI.of Try.f18 (TT.an 18)) K18_1 [(5, .ptr 0 0), (6, .sl b 0 n n), (8, .int .i64 m), (9, v9), (10, v10), (11, v11), (12, v12), (13, v13), (14, .int .i64 (C (fitS A k S) x : Nat)), (15, .int .i64 (first (fitS A k S) x)), (16, .int .i64 (C (fun x => fitS A k S x && oneS A k m x) x : Nat)), (17, .int .i64 x)] σ = exI TT (FI.of Try.f18 (TT.an 18)) R18_1_2 [(5, .ptr 0 0), (6, .sl b 0 n n), (8, .int .i64 m), (9, v9), (10, v10), (11, v11), (12, v12), (13, v13), (14, .int .i64 (C (fitS A k S) (pw A.length) : Nat)), (15, .int .i64 (first (fitS A k S) (pw A.length))), (16, .int .i64 (C (fun x => fitS A k S x && oneS A k m x) (pw A.length) : Nat)), (17, .int .i64 (pw A.length)), (69, .bool false)] σ := by
  have g0 : cellsAt σ (.ptr 0 0) 1 = some [.int .i64 A.length] := by simp [cellsAt, (show σ.get 0 = _ from hL), getCells, takeN, dropN]
  have hg := hL.c3
  have z1 := cv73 σ (i := A.length) h.few
  have z2 : wrapA .i64 (shlA 1 (min A.length IntKind.i64.bits)) = ((pw A.length : Nat) : Int) := sh_1 (by have := h.few; omega)
  have p3 := pw_le16 h.few
  intro d
  induction d with
  | zero =>
    intro x hx
    obtain rfl : x = pw A.length := by omega
    generalize C (fitS A k S) (pw A.length) = c1
    generalize first (fitS A k S) (pw A.length) = c2
    generalize C (fun x => fitS A k S x && oneS A k m x) (pw A.length) = c3
    generalize pw A.length = W at *
    rw [fi18]
    rw [xl18_1]
    simp only [B18_1, b18, Try.f18, Option.getD, fstC, sndC, bodyC, thnC, elsC]
    simp [xI_seq, xI_region, xI_ret, regA, regOps, runOps, opStep, wantedA, opA, evo, evos, calleeA, lk, nif_eq, putE, paramsE, valS, val2, keepE, restrict, finA, resA, binA, binInt, ofConst, ofConst1, loadA, TK.isAgg, asVar, unA, builtinA, lenOpA, lenA, ileb_cast, ileb_eq, ieqb_dec, indexAddrA, inB_dec, evPairs, storeA, AV.cellsOf, pairsOf, xI_nil, binBool, gcE, evOpt, xI_block, xI_loopH, xI_condM, xI_exitM, xI_skip, xI_blk, exitA, ty2, ty3, ty4, ty5, ty9, ty41, ty73, ty74, ty76, eK18_0_0, eK18_1_2, eK18_2_4, eK18_2_3, eK18_2_2, fieldAddrA, allOne, AV.one, indexA, ty2, ty3, ty4, ty5, ty9, ty29, ty33, ty41, ty73, ty74, ty76, g0, z1, z2]
  | succ d ih =>
    intro x hx
    have hxl : x < pw A.length := by omega
    have hlt : ¬ pw A.length ≤ x := by omega
    have hlt' : ¬ ((pw A.length : Nat) : Int) ≤ (x : Int) := by omega
    have hw := wrapS (n := x) (by omega)
    have c1 := m56 h hxl (n := 14) (by decide) σ
    have hSl := outB_length A k 14 x
    have hbits : ∀ i, i < 14 → (outB A k 14 x)[i]? = some (bb (par (andN k (steps A i x)))) := fun i hi => outB_get A k 14 i x hi
    have hget := hbits m (by omega)
    have hp2 := par_lt (andN k (steps A m x))
    have b1 := bb_off hp2
    have hm0 : (0 : Int) ≤ (m : Int) := by omega
    have h1 := ih (x + 1) (by omega)
    have i1 := C_le (fitS A k S) x
    have i2 := C_le (fun x => fitS A k S x && oneS A k m x) x
    have i3 := first_lt (fitS A k S) x
    have hQ : C (fun x => fitS A k S x && oneS A k m x) (x + 1) = C (fun x => fitS A k S x && oneS A k m x) x + if ((fitS A k S) x && oneS A k m x) = true then 1 else 0 := rfl
    have hP : C (fitS A k S) (x + 1) = C (fitS A k S) x + if (fitS A k S) x = true then 1 else 0 := rfl
    have hF : first (fitS A k S) (x + 1) = if (fitS A k S) x = true ∧ first (fitS A k S) x < 0 then (x : Int) else first (fitS A k S) x := rfl
    have h2 := lb18 (A := A) (k := k) x (outB A k 14 x) hbits S hB n hS hn b σ hr (.int .i64 m) v9 v10 v11 v12 v13 (.int .i64 (C (fitS A k S) x : Nat)) (.int .i64 (first (fitS A k S) x)) (.int .i64 (C (fun x => fitS A k S x && oneS A k m x) x : Nat)) (.int .i64 x) S [] true rfl
    rw [hQ, hP, hF] at h1
    have hone : oneS A k m x = decide (par (andN k (steps A m x)) = 1) := rfl
    simp only [List.length_nil, Int.natCast_zero, show ((0 : Nat) : Int) = 0 from rfl, Bool.true_and] at h2
    simp only [show ((14 : Nat) : Int) = 14 from rfl, mach] at c1
    rw [hone] at h1
    clear hbits hQ hP hF hone ih
    generalize outB A k 14 x = bits at *
    generalize C (fitS A k S) (pw A.length) = y1 at *
    generalize first (fitS A k S) (pw A.length) = y2 at *
    generalize C (fun x => fitS A k S x && oneS A k m x) (pw A.length) = y3 at *
    generalize C (fitS A k S) x = u1 at *
    generalize first (fitS A k S) x = u2 at *
    generalize C (fun x => fitS A k S x && oneS A k m x) x = u3 at *
    generalize par (andN k (steps A m x)) = pp at *
    generalize hW : pw A.length = W at *
    have w1 : wrapA .i64 ((u1 : Int) + 1) = (u1 : Int) + 1 := wrapS (by omega)
    have w3 : wrapA .i64 ((u3 : Int) + (pp : Int)) = (u3 : Int) + (pp : Int) := wrapA_id (by omega) (by omega)
    cases hfit : fitS A k S x with
    | false =>
      simp only [hfit, Bool.false_and, Bool.false_eq_true, if_false, false_and, Nat.add_zero, Int.natCast_add, show ((1 : Nat) : Int) = 1 from rfl] at h1 h2
      rw [fi18] at h1 h2 ⊢
      rw [xl18_1]
      simp only [B18_1, b18, Try.f18, Option.getD, fstC, sndC, bodyC, thnC, elsC]
      simp [xI_seq, xI_region, xI_ret, regA, regOps, runOps, opStep, wantedA, opA, evo, evos, calleeA, lk, nif_eq, putE, paramsE, valS, val2, keepE, restrict, finA, resA, binA, binInt, ofConst, ofConst1, loadA, TK.isAgg, asVar, unA, builtinA, lenOpA, lenA, ileb_cast, ileb_eq, ieqb_dec, indexAddrA, inB_dec, evPairs, storeA, AV.cellsOf, pairsOf, xI_nil, binBool, gcE, evOpt, xI_block, xI_loopH, xI_condM, xI_exitM, xI_skip, xI_blk, exitA, ty2, ty3, ty4, ty5, ty9, ty41, ty73, ty74, ty76, eK18_0_0, eK18_1_2, eK18_2_4, eK18_2_3, eK18_2_2, fieldAddrA, allOne, AV.one, indexA, ty2, ty3, ty4, ty5, ty9, ty29, ty33, ty41, ty73, ty74, ty76, g0, hg, z1, z2, hlt, hlt', hxl, c1, hSl]
      refine h2.trans ?_
      simp only [R18_2_4, b18, Try.f18, Option.getD, fstC, sndC, bodyC, thnC, elsC]
      simp [xI_seq, xI_region, xI_ret, regA, regOps, runOps, opStep, wantedA, opA, evo, evos, calleeA, lk, nif_eq, putE, paramsE, valS, val2, keepE, restrict, finA, resA, binA, binInt, ofConst, ofConst1, loadA, TK.isAgg, asVar, unA, builtinA, lenOpA, lenA, ileb_cast, ileb_eq, ieqb_dec, indexAddrA, inB_dec, evPairs, storeA, AV.cellsOf, pairsOf, xI_nil, binBool, gcE, evOpt, xI_block, xI_loopH, xI_condM, xI_exitM, xI_skip, xI_blk, exitA, ty2, ty3, ty4, ty5, ty9, ty41, ty73, ty74, ty76, eK18_0_0, eK18_1_2, eK18_2_4, eK18_2_3, eK18_2_2, fieldAddrA, allOne, AV.one, indexA, ty2, ty3, ty4, ty5, ty9, ty29, ty33, ty41, ty73, ty74, ty76, hw]
      simpa using h1
    | true =>
      have hpc : (if decide (pp = 1) = true then 1 else 0) = pp := by
        rcases (show pp = 0 ∨ pp = 1 by omega) with rfl | rfl <;> rfl
      simp only [hfit, Bool.true_and, if_true, true_and, hpc, Int.natCast_add, show ((1 : Nat) : Int) = 1 from rfl] at h1 h2
      by_cases hneg : u2 < 0
      · have hneg2 : ¬ (0 : Int) ≤ u2 := by omega
        rw [if_pos hneg] at h1
        rw [fi18] at h1 h2 ⊢
        rw [xl18_1]
        simp only [B18_1, b18, Try.f18, Option.getD, fstC, sndC, bodyC, thnC, elsC]
        simp [xI_seq, xI_region, xI_ret, regA, regOps, runOps, opStep, wantedA, opA, evo, evos, calleeA, lk, nif_eq, putE, paramsE, valS, val2, keepE, restrict, finA, resA, binA, binInt, ofConst, ofConst1, loadA, TK.isAgg, asVar, unA, builtinA, lenOpA, lenA, ileb_cast, ileb_eq, ieqb_dec, indexAddrA, inB_dec, evPairs, storeA, AV.cellsOf, pairsOf, xI_nil, binBool, gcE, evOpt, xI_block, xI_loopH, xI_condM, xI_exitM, xI_skip, xI_blk, exitA, ty2, ty3, ty4, ty5, ty9, ty41, ty73, ty74, ty76, eK18_0_0, eK18_1_2, eK18_2_4, eK18_2_3, eK18_2_2, fieldAddrA, allOne, AV.one, indexA, ty2, ty3, ty4, ty5, ty9, ty29, ty33, ty41, ty73, ty74, ty76, g0, hg, z1, z2, hlt, hlt', hxl, c1, hSl]
        refine h2.trans ?_
        simp only [R18_2_4, b18, Try.f18, Option.getD, fstC, sndC, bodyC, thnC, elsC]
        simp [xI_seq, xI_region, xI_ret, regA, regOps, runOps, opStep, wantedA, opA, evo, evos, calleeA, lk, nif_eq, putE, paramsE, valS, val2, keepE, restrict, finA, resA, binA, binInt, ofConst, ofConst1, loadA, TK.isAgg, asVar, unA, builtinA, lenOpA, lenA, ileb_cast, ileb_eq, ieqb_dec, indexAddrA, inB_dec, evPairs, storeA, AV.cellsOf, pairsOf, xI_nil, binBool, gcE, evOpt, xI_block, xI_loopH, xI_condM, xI_exitM, xI_skip, xI_blk, exitA, ty2, ty3, ty4, ty5, ty9, ty41, ty73, ty74, ty76, eK18_0_0, eK18_1_2, eK18_2_4, eK18_2_3, eK18_2_2, fieldAddrA, allOne, AV.one, indexA, ty2, ty3, ty4, ty5, ty9, ty29, ty33, ty41, ty73, ty74, ty76, convA, hw, hneg, hneg2, w1, w3, hm0, hget, b1]
        simpa using h1
      · have hneg2 : (0 : Int) ≤ u2 := by omega
        rw [if_neg hneg] at h1
        rw [fi18] at h1 h2 ⊢
        rw [xl18_1]
        simp only [B18_1, b18, Try.f18, Option.getD, fstC, sndC, bodyC, thnC, elsC]
        simp [xI_seq, xI_region, xI_ret, regA, regOps, runOps, opStep, wantedA, opA, evo, evos, calleeA, lk, nif_eq, putE, paramsE, valS, val2, keepE, restrict, finA, resA, binA, binInt, ofConst, ofConst1, loadA, TK.isAgg, asVar, unA, builtinA, lenOpA, lenA, ileb_cast, ileb_eq, ieqb_dec, indexAddrA, inB_dec, evPairs, storeA, AV.cellsOf, pairsOf, xI_nil, binBool, gcE, evOpt, xI_block, xI_loopH, xI_condM, xI_exitM, xI_skip, xI_blk, exitA, ty2, ty3, ty4, ty5, ty9, ty41, ty73, ty74, ty76, eK18_0_0, eK18_1_2, eK18_2_4, eK18_2_3, eK18_2_2, fieldAddrA, allOne, AV.one, indexA, ty2, ty3, ty4, ty5, ty9, ty29, ty33, ty41, ty73, ty74, ty76, g0, hg, z1, z2, hlt, hlt', hxl, c1, hSl]
        refine h2.trans ?_
        simp only [R18_2_4, b18, Try.f18, Option.getD, fstC, sndC, bodyC, thnC, elsC]
        simp [xI_seq, xI_region, xI_ret, regA, regOps, runOps, opStep, wantedA, opA, evo, evos, calleeA, lk, nif_eq, putE, paramsE, valS, val2, keepE, restrict, finA, resA, binA, binInt, ofConst, ofConst1, loadA, TK.isAgg, asVar, unA, builtinA, lenOpA, lenA, ileb_cast, ileb_eq, ieqb_dec, indexAddrA, inB_dec, evPairs, storeA, AV.cellsOf, pairsOf, xI_nil, binBool, gcE, evOpt, xI_block, xI_loopH, xI_condM, xI_exitM, xI_skip, xI_blk, exitA, ty2, ty3, ty4, ty5, ty9, ty41, ty73, ty74, ty76, eK18_0_0, eK18_1_2, eK18_2_4, eK18_2_3, eK18_2_2, fieldAddrA, allOne, AV.one, indexA, ty2, ty3, ty4, ty5, ty9, ty29, ty33, ty41, ty73, ty74, ty76, convA, hw, hneg, hneg2, w1, w3, hm0, hget, b1]
        simpa using h1

theorem sen_small {S : List (Nat × Nat)} (hl : S.length ≤ 64) (hB : ∀ s ∈ S, s.1 ≤ 11 ∧ s.2 ≤ 1) : senOk (npairs S) = true := by
  simp only [senOk, Bool.and_eq_true, decide_eq_true_eq, npairs_length, List.all_eq_true]
  refine ⟨hl, fun x hx => ?_⟩
  obtain ⟨s, hs, rfl⟩ := List.mem_map.1 hx
  have := hB s hs
  simp only [sen1, Bool.and_eq_true]
  exact ⟨inR_iff.2 ⟨by omega, by omega⟩, inR_iff.2 ⟨by omega, by omega⟩⟩
theorem m64 {A : List Nat} {k : Nat} (h : Mach A k) {S : List (Nat × Nat)} {n : Nat} (hS : S.length = n) (hl : n ≤ 64) (hB : senOk (npairs S) = true) {b : Nat} {σ : St} (hr : PRow σ b (npairs S)) : callI TT 64 [mach A k, .sl b 0 n n] σ = some (stV (match addAll A.length [] (seqs A.length A k S) with | some rows => some (least A.length rows, A.length - rows.length) | none => none), σ) := by
  have hf := hr.frz (d := 4)
  rw [npairs_length, hS] at hf
  have := v64 A.length (nints A) k (npairs S) h.len (by rw [npairs_length]; omega) σ [mach A k, .sl b 0 n n] (by rw [npairs_length, hS, mach_eq]; exact mapO_cons rfl (mapO_cons hf rfl))
  rwa [stB_yes (by rw [h.ok, hB]; rfl)] at this
theorem m65 {A : List Nat} {k m : Nat} (h : Mach A k) {S : List (Nat × Nat)} {n : Nat} (hS : S.length = n) (hl : n ≤ 64) (hB : senOk (npairs S) = true) (hm : m ≤ 10000) {b : Nat} {σ : St} (hr : PRow σ b (npairs S)) : callI TT 65 [mach A k, .sl b 0 n n, .int .i64 m] σ = some (pdV (match addAll A.length [] (seqs A.length A k S) with | some rows => if lead A.length (reduced A.length rows (mk A k m)) = A.length then some (shrN (reduced A.length rows (mk A k m)) A.length) else none | none => none), σ) := by
  have hf := hr.frz (d := 4)
  rw [npairs_length, hS] at hf
  have := v65 A.length (nints A) k (npairs S) m h.len (by rw [npairs_length]; omega) σ [mach A k, .sl b 0 n n, .int .i64 m] (by rw [npairs_length, hS, mach_eq]; exact mapO_cons rfl (mapO_cons hf rfl))
  rwa [pdB_yes (by rw [h.ok, hB, show inR (m : Int) 0 10000 = true from inR_iff.2 ⟨by omega, by omega⟩]; rfl)] at this

set_option maxHeartbeats 1000000 in
theorem v18 (code : List Nat) (hb : ∀ x ∈ code, x < 256) (more : List Nat) (hm : ∀ x ∈ more, x < 256) : FnV TT 18 [.lst code.length (byts code), .lst more.length (byts more)] (.bool true) := by
  have eL := FnV.now (v25 code more) (fun _ => rfl)
  by_cases hlg : 48 < code.length ∨ 48 < more.length
  · have hlg' : (decide (48 < code.length) || decide (48 < more.length)) = true := by simpa using hlg
    rw [hlg'] at eL
    refine FnV.mk fn18 rfl md18 ⟨⟨[], 0⟩, ?_⟩ (fun _ => rfl) rfl
    rw [fi18]
    simp [xI_seq, xI_region, xI_ret, regA, regOps, runOps, opStep, wantedA, opA, evo, evos, calleeA, lk, nif_eq, putE, paramsE, valS, val2, keepE, restrict, finA, resA, binA, binInt, ofConst, ofConst1, loadA, TK.isAgg, asVar, unA, builtinA, lenOpA, lenA, ileb_cast, ileb_eq, ieqb_dec, indexAddrA, inB_dec, evPairs, storeA, AV.cellsOf, pairsOf, xI_nil, binBool, gcE, evOpt, xI_block, xI_loopH, xI_condM, xI_exitM, xI_skip, xI_blk, exitA, ty2, ty3, ty4, ty5, ty9, ty41, ty73, ty74, ty76, eK18_0_0, eK18_1_2, eK18_2_4, eK18_2_3, eK18_2_2, eL]
  · have hlg' : (decide (48 < code.length) || decide (48 < more.length)) = false := by simpa using hlg
    rw [hlg'] at eL
    obtain ⟨A, k, g1, g2, g3, g4, eM⟩ := v63 code hb (by omega)
    have h : Mach A k := ⟨g1, by omega, g3, g4⟩
    have eM := fun σ => eM σ [.lst code.length (byts code)] rfl rfl
    rw [mach_eq] at eM
    simp only [mach] at eM
    obtain ⟨n, hn, e0⟩ := v27 more hm (by omega) 0 (by decide) 7 (by decide)
    obtain ⟨m, hm', e20⟩ := v27 more hm (by omega) 20 (by decide) 14 (by decide)
    replace e0 := FnV.now e0 (fun _ => rfl)
    replace e20 := FnV.now e20 (fun _ => rfl)
    simp only [show ((0 : Nat) : Int) = 0 from rfl, show ((7 : Nat) : Int) = 7 from rfl] at e0
    simp only [show ((20 : Nat) : Int) = 20 from rfl, show ((14 : Nat) : Int) = 14 from rfl] at e20
    have hn : n ≤ 6 := by simp at hn; omega
    have hm' : m ≤ 13 := by simp at hm'; omega
    obtain ⟨σ1, hσ1⟩ : ∃ σ1, (⟨[], 0⟩ : St).push ⟨[.int .i64 0, .nilS, .int .i64 0], 3, false⟩ = σ1 := ⟨_, rfl⟩
    have n1 : σ1.n = 1 := by subst hσ1; rfl
    have D1 : LINB σ1 0 (.int .i64 0) .nilS (.int .i64 0) := by subst hσ1; exact get_push_same
    obtain ⟨σ2, cs, D2, n2, _⟩ := D1.s3 (in_one A.length) (show (AV.lst A.length (ints (nints A))).one = true from rfl) (in_one k)
    have nσ : σ2.n = 1 := by omega
    have D3 : LINB (σ2.push ⟨pairs [], 2, false⟩) 0 (.int .i64 A.length) (.lst A.length (ints (nints A))) (.int .i64 k) := D2.keep (get_push_lt (by omega))
    obtain ⟨σ, b, S, la, hS, hB, hr, D⟩ := la18 more hm (by omega) n (by omega) e0 _ _ _ n 0 [] 1 (σ2.push ⟨pairs [], 2, false⟩) (by omega) rfl (by simp) (by rw [← nσ]; exact PRow_push) D3 (by decide) (by rw [n_push]; omega)
    simp only [show ((0 : Nat) : Int) = 0 from rfl] at la
    have hg := D.c3
    have sok := sen_small (S := S) (by omega) hB
    have c1 := m64 h hS (by omega) sok hr
    have c2 := m65 h (m := m) hS (by omega) sok (by omega) hr
    simp only [mach] at c1 c2
    have all := behind_all h (S := S) (fun s hs => by have := hB s hs; omega) m
    have sp := C_split (fitS A k S) (oneS A k m) (pw A.length)
    have lp := fun v9 v10 v11 v12 v13 => lc18 h S hB n hS (by omega) m (by omega) b σ hr D v9 v10 v11 v12 v13 (pw A.length) 0 (by omega)
    simp only [show C (fitS A k S) 0 = 0 from rfl, show C (fun x => fitS A k S x && oneS A k m x) 0 = 0 from rfl, show first (fitS A k S) 0 = -1 from rfl, show ((0 : Nat) : Int) = 0 from rfl] at lp
    have few := h.few
    cases ha : addAll A.length [] (seqs A.length A k S) with
    | none =>
      have a1 := all.1 ha
      clear all
      rw [ha] at c1 c2
      simp only [stV, pdV] at c1 c2
      generalize C (fitS A k S) (pw A.length) = c at *
      generalize C (fun x => fitS A k S x && oneS A k m x) (pw A.length) = o at *
      generalize hfi : first (fitS A k S) (pw A.length) = fi at *
      generalize hWW : pw A.length = W at *
      have hc : (c : Int) = 0 := by omega
      have ho : (o : Int) = 0 := by omega
      replace lp := lp (.int .i64 0) (.int .i64 0) (.bool false) (.int .i64 0) (.bool false)
      have fin : exI TT (FI.of Try.f18 (TT.an 18)) R18_1_2 [(5, .ptr 0 0), (6, .sl b 0 n n), (8, .int .i64 m), (9, .int .i64 0), (10, .int .i64 0), (11, .bool false), (12, .int .i64 0), (13, .bool false), (14, .int .i64 (c : Nat)), (15, .int .i64 fi), (16, .int .i64 (o : Nat)), (17, .int .i64 W), (69, .bool false)] σ = some (.bool true, σ) := by
        rw [fi18]
        simp only [R18_1_2, b18, Try.f18, Option.getD, fstC, sndC, bodyC, thnC, elsC]
        simp [xI_seq, xI_region, xI_ret, regA, regOps, runOps, opStep, wantedA, opA, evo, evos, calleeA, lk, nif_eq, putE, paramsE, valS, val2, keepE, restrict, finA, resA, binA, binInt, ofConst, ofConst1, loadA, TK.isAgg, asVar, unA, builtinA, lenOpA, lenA, ileb_cast, ileb_eq, ieqb_dec, indexAddrA, inB_dec, evPairs, storeA, AV.cellsOf, pairsOf, xI_nil, binBool, gcE, evOpt, xI_block, xI_loopH, xI_condM, xI_exitM, xI_skip, xI_blk, exitA, ty2, ty3, ty4, ty5, ty9, ty41, ty73, ty74, ty76, eK18_0_0, eK18_1_2, eK18_2_4, eK18_2_3, eK18_2_2, fieldAddrA, allOne, AV.one, indexA, ty2, ty3, ty4, ty5, ty9, ty29, ty33, ty41, ty73, ty74, ty76, hc, ho]
      have mid : exI TT (FI.of Try.f18 (TT.an 18)) R18_0_0 [(1, .lst more.length (byts more)), (5, .ptr 0 0), (6, .sl b 0 n n), (7, .int .i64 n), (31, .bool false)] σ = some (.bool true, σ) := by
        rw [← lp.trans fin, fi18]
        simp only [R18_0_0, b18, Try.f18, Option.getD, fstC, sndC, bodyC, thnC, elsC]
        simp [xI_seq, xI_region, xI_ret, regA, regOps, runOps, opStep, wantedA, opA, evo, evos, calleeA, lk, nif_eq, putE, paramsE, valS, val2, keepE, restrict, finA, resA, binA, binInt, ofConst, ofConst1, loadA, TK.isAgg, asVar, unA, builtinA, lenOpA, lenA, ileb_cast, ileb_eq, ieqb_dec, indexAddrA, inB_dec, evPairs, storeA, AV.cellsOf, pairsOf, xI_nil, binBool, gcE, evOpt, xI_block, xI_loopH, xI_condM, xI_exitM, xI_skip, xI_blk, exitA, ty2, ty3, ty4, ty5, ty9, ty41, ty73, ty74, ty76, eK18_0_0, eK18_1_2, eK18_2_4, eK18_2_3, eK18_2_2, fieldAddrA, allOne, AV.one, indexA, ty2, ty3, ty4, ty5, ty9, ty29, ty33, ty41, ty73, ty74, ty76, e20, hg, c1, c2]
        rfl
      refine FnV.mk fn18 rfl md18 ⟨σ, ?_⟩ (fun _ => rfl) rfl
      rw [← la.trans mid, fi18]
      simp [xI_seq, xI_region, xI_ret, regA, regOps, runOps, opStep, wantedA, opA, evo, evos, calleeA, lk, nif_eq, putE, paramsE, valS, val2, keepE, restrict, finA, resA, binA, binInt, ofConst, ofConst1, loadA, TK.isAgg, asVar, unA, builtinA, lenOpA, lenA, ileb_cast, ileb_eq, ieqb_dec, indexAddrA, inB_dec, evPairs, storeA, AV.cellsOf, pairsOf, xI_nil, binBool, gcE, evOpt, xI_block, xI_loopH, xI_condM, xI_exitM, xI_skip, xI_blk, exitA, ty2, ty3, ty4, ty5, ty9, ty41, ty73, ty74, ty76, eK18_0_0, eK18_1_2, eK18_2_4, eK18_2_3, eK18_2_2, fieldAddrA, allOne, AV.one, indexA, ty2, ty3, ty4, ty5, ty9, ty29, ty33, ty41, ty73, ty74, ty76, eL, eM, hσ1, cs, nσ, bsP0]
      rfl
    | some rows =>
      obtain ⟨a1, a2, a3, a4, a5⟩ := all.2 rows ha
      clear all
      rw [ha] at c1 c2
      simp only [stV] at c1
      dsimp only at c2
      have rl := ((addAll_can (show A.length < 64 by omega) (seqs_lt h.rows h.out fun s hs => by have := hB s hs; omega)).2 rows ha).2.2.1
      have z1 := cv73 σ (i := A.length - rows.length) (by omega)
      have z2 : wrapA .i64 (shlA 1 (min (A.length - rows.length) IntKind.i64.bits)) = ((pw (A.length - rows.length) : Nat) : Int) := sh_1 (by omega)
      have z3 : A.length - rows.length ≤ 16 := by omega
      have z4 : (((A.length - rows.length : Nat)) : Int) ≤ 16 := by omega
      generalize C (fitS A k S) (pw A.length) = c at *
      generalize C (fun x => fitS A k S x && oneS A k m x) (pw A.length) = o at *
      generalize hfi : first (fitS A k S) (pw A.length) = fi at *
      generalize hWW : pw A.length = W at *
      generalize hle : least A.length rows = le at *
      generalize A.length - rows.length = fr at *
      generalize hsh : shrN (reduced A.length rows (mk A k m)) A.length = bit at *
      rw [← a2] at z2
      subst a3
      have hc : (0 : Int) < (c : Int) := by omega
      have hc2 : ¬ (c : Int) ≤ 0 := by omega
      have hc3 : ¬ c = 0 := by omega
      have hc4 : ¬ (c : Int) = 0 := by omega
      by_cases hld : lead A.length (reduced A.length rows (mk A k m)) = A.length
      · simp only [hld, if_true, pdV] at c2
        rcases a4 hld with ⟨b0, o0⟩ | ⟨b1, o1⟩
        · subst b0
          have ho : (o : Int) = 0 := by omega
          simp only [show ((0 : Nat) : Int) = 0 from rfl] at c2
          clear a1 a2 a4 a5 o0
          replace lp := lp (.int .i64 le) (.int .i64 fr) (.bool true) (.int .i64 0) (.bool true)
          have fin : exI TT (FI.of Try.f18 (TT.an 18)) R18_1_2 [(5, .ptr 0 0), (6, .sl b 0 n n), (8, .int .i64 m), (9, .int .i64 le), (10, .int .i64 fr), (11, .bool true), (12, .int .i64 0), (13, .bool true), (14, .int .i64 (c : Nat)), (15, .int .i64 le), (16, .int .i64 (o : Nat)), (17, .int .i64 W), (69, .bool false)] σ = some (.bool true, σ) := by
            rw [fi18]
            simp only [R18_1_2, b18, Try.f18, Option.getD, fstC, sndC, bodyC, thnC, elsC]
            simp [xI_seq, xI_region, xI_ret, regA, regOps, runOps, opStep, wantedA, opA, evo, evos, calleeA, lk, nif_eq, putE, paramsE, valS, val2, keepE, restrict, finA, resA, binA, binInt, ofConst, ofConst1, loadA, TK.isAgg, asVar, unA, builtinA, lenOpA, lenA, ileb_cast, ileb_eq, ieqb_dec, indexAddrA, inB_dec, evPairs, storeA, AV.cellsOf, pairsOf, xI_nil, binBool, gcE, evOpt, xI_block, xI_loopH, xI_condM, xI_exitM, xI_skip, xI_blk, exitA, ty2, ty3, ty4, ty5, ty9, ty41, ty73, ty74, ty76, eK18_0_0, eK18_1_2, eK18_2_4, eK18_2_3, eK18_2_2, fieldAddrA, allOne, AV.one, indexA, ty2, ty3, ty4, ty5, ty9, ty29, ty33, ty41, ty73, ty74, ty76, hc, hc2, hc3, hc4, ho, z1, z2, z3, z4]
          have mid : exI TT (FI.of Try.f18 (TT.an 18)) R18_0_0 [(1, .lst more.length (byts more)), (5, .ptr 0 0), (6, .sl b 0 n n), (7, .int .i64 n), (31, .bool false)] σ = some (.bool true, σ) := by
            rw [← lp.trans fin, fi18]
            simp only [R18_0_0, b18, Try.f18, Option.getD, fstC, sndC, bodyC, thnC, elsC]
            simp [xI_seq, xI_region, xI_ret, regA, regOps, runOps, opStep, wantedA, opA, evo, evos, calleeA, lk, nif_eq, putE, paramsE, valS, val2, keepE, restrict, finA, resA, binA, binInt, ofConst, ofConst1, loadA, TK.isAgg, asVar, unA, builtinA, lenOpA, lenA, ileb_cast, ileb_eq, ieqb_dec, indexAddrA, inB_dec, evPairs, storeA, AV.cellsOf, pairsOf, xI_nil, binBool, gcE, evOpt, xI_block, xI_loopH, xI_condM, xI_exitM, xI_skip, xI_blk, exitA, ty2, ty3, ty4, ty5, ty9, ty41, ty73, ty74, ty76, eK18_0_0, eK18_1_2, eK18_2_4, eK18_2_3, eK18_2_2, fieldAddrA, allOne, AV.one, indexA, ty2, ty3, ty4, ty5, ty9, ty29, ty33, ty41, ty73, ty74, ty76, e20, hg, c1, c2]
            rfl
          refine FnV.mk fn18 rfl md18 ⟨σ, ?_⟩ (fun _ => rfl) rfl
          rw [← la.trans mid, fi18]
          simp [xI_seq, xI_region, xI_ret, regA, regOps, runOps, opStep, wantedA, opA, evo, evos, calleeA, lk, nif_eq, putE, paramsE, valS, val2, keepE, restrict, finA, resA, binA, binInt, ofConst, ofConst1, loadA, TK.isAgg, asVar, unA, builtinA, lenOpA, lenA, ileb_cast, ileb_eq, ieqb_dec, indexAddrA, inB_dec, evPairs, storeA, AV.cellsOf, pairsOf, xI_nil, binBool, gcE, evOpt, xI_block, xI_loopH, xI_condM, xI_exitM, xI_skip, xI_blk, exitA, ty2, ty3, ty4, ty5, ty9, ty41, ty73, ty74, ty76, eK18_0_0, eK18_1_2, eK18_2_4, eK18_2_3, eK18_2_2, fieldAddrA, allOne, AV.one, indexA, ty2, ty3, ty4, ty5, ty9, ty29, ty33, ty41, ty73, ty74, ty76, eL, eM, hσ1, cs, nσ, bsP0]
          rfl
        · subst b1
          subst o1
          simp only [show ((1 : Nat) : Int) = 1 from rfl] at c2
          clear a1 a2 a4 a5
          replace lp := lp (.int .i64 le) (.int .i64 fr) (.bool true) (.int .i64 1) (.bool true)
          have fin : exI TT (FI.of Try.f18 (TT.an 18)) R18_1_2 [(5, .ptr 0 0), (6, .sl b 0 n n), (8, .int .i64 m), (9, .int .i64 le), (10, .int .i64 fr), (11, .bool true), (12, .int .i64 1), (13, .bool true), (14, .int .i64 (o : Nat)), (15, .int .i64 le), (16, .int .i64 (o : Nat)), (17, .int .i64 W), (69, .bool false)] σ = some (.bool true, σ) := by
            rw [fi18]
            simp only [R18_1_2, b18, Try.f18, Option.getD, fstC, sndC, bodyC, thnC, elsC]
            simp [xI_seq, xI_region, xI_ret, regA, regOps, runOps, opStep, wantedA, opA, evo, evos, calleeA, lk, nif_eq, putE, paramsE, valS, val2, keepE, restrict, finA, resA, binA, binInt, ofConst, ofConst1, loadA, TK.isAgg, asVar, unA, builtinA, lenOpA, lenA, ileb_cast, ileb_eq, ieqb_dec, indexAddrA, inB_dec, evPairs, storeA, AV.cellsOf, pairsOf, xI_nil, binBool, gcE, evOpt, xI_block, xI_loopH, xI_condM, xI_exitM, xI_skip, xI_blk, exitA, ty2, ty3, ty4, ty5, ty9, ty41, ty73, ty74, ty76, eK18_0_0, eK18_1_2, eK18_2_4, eK18_2_3, eK18_2_2, fieldAddrA, allOne, AV.one, indexA, ty2, ty3, ty4, ty5, ty9, ty29, ty33, ty41, ty73, ty74, ty76, hc, hc2, hc3, hc4, z1, z2, z3, z4]
          have mid : exI TT (FI.of Try.f18 (TT.an 18)) R18_0_0 [(1, .lst more.length (byts more)), (5, .ptr 0 0), (6, .sl b 0 n n), (7, .int .i64 n), (31, .bool false)] σ = some (.bool true, σ) := by
            rw [← lp.trans fin, fi18]
            simp only [R18_0_0, b18, Try.f18, Option.getD, fstC, sndC, bodyC, thnC, elsC]
            simp [xI_seq, xI_region, xI_ret, regA, regOps, runOps, opStep, wantedA, opA, evo, evos, calleeA, lk, nif_eq, putE, paramsE, valS, val2, keepE, restrict, finA, resA, binA, binInt, ofConst, ofConst1, loadA, TK.isAgg, asVar, unA, builtinA, lenOpA, lenA, ileb_cast, ileb_eq, ieqb_dec, indexAddrA, inB_dec, evPairs, storeA, AV.cellsOf, pairsOf, xI_nil, binBool, gcE, evOpt, xI_block, xI_loopH, xI_condM, xI_exitM, xI_skip, xI_blk, exitA, ty2, ty3, ty4, ty5, ty9, ty41, ty73, ty74, ty76, eK18_0_0, eK18_1_2, eK18_2_4, eK18_2_3, eK18_2_2, fieldAddrA, allOne, AV.one, indexA, ty2, ty3, ty4, ty5, ty9, ty29, ty33, ty41, ty73, ty74, ty76, e20, hg, c1, c2]
            rfl
          refine FnV.mk fn18 rfl md18 ⟨σ, ?_⟩ (fun _ => rfl) rfl
          rw [← la.trans mid, fi18]
          simp [xI_seq, xI_region, xI_ret, regA, regOps, runOps, opStep, wantedA, opA, evo, evos, calleeA, lk, nif_eq, putE, paramsE, valS, val2, keepE, restrict, finA, resA, binA, binInt, ofConst, ofConst1, loadA, TK.isAgg, asVar, unA, builtinA, lenOpA, lenA, ileb_cast, ileb_eq, ieqb_dec, indexAddrA, inB_dec, evPairs, storeA, AV.cellsOf, pairsOf, xI_nil, binBool, gcE, evOpt, xI_block, xI_loopH, xI_condM, xI_exitM, xI_skip, xI_blk, exitA, ty2, ty3, ty4, ty5, ty9, ty41, ty73, ty74, ty76, eK18_0_0, eK18_1_2, eK18_2_4, eK18_2_3, eK18_2_2, fieldAddrA, allOne, AV.one, indexA, ty2, ty3, ty4, ty5, ty9, ty29, ty33, ty41, ty73, ty74, ty76, eL, eM, hσ1, cs, nσ, bsP0]
          rfl
      · obtain ⟨o1, o2⟩ := a5 hld
        simp only [hld, if_false, pdV] at c2
        have ho1 : ¬ (o : Int) = 0 := by omega
        have ho2 : ¬ o = 0 := by omega
        have ho3 : ¬ (o : Int) = (c : Int) := by omega
        have ho4 : ¬ o = c := by omega
        clear a1 a2 a4 a5 o1 o2
        replace lp := lp (.int .i64 le) (.int .i64 fr) (.bool true) (.int .i64 0) (.bool false)
        have fin : exI TT (FI.of Try.f18 (TT.an 18)) R18_1_2 [(5, .ptr 0 0), (6, .sl b 0 n n), (8, .int .i64 m), (9, .int .i64 le), (10, .int .i64 fr), (11, .bool true), (12, .int .i64 0), (13, .bool false), (14, .int .i64 (c : Nat)), (15, .int .i64 le), (16, .int .i64 (o : Nat)), (17, .int .i64 W), (69, .bool false)] σ = some (.bool true, σ) := by
          rw [fi18]
          simp only [R18_1_2, b18, Try.f18, Option.getD, fstC, sndC, bodyC, thnC, elsC]
          simp [xI_seq, xI_region, xI_ret, regA, regOps, runOps, opStep, wantedA, opA, evo, evos, calleeA, lk, nif_eq, putE, paramsE, valS, val2, keepE, restrict, finA, resA, binA, binInt, ofConst, ofConst1, loadA, TK.isAgg, asVar, unA, builtinA, lenOpA, lenA, ileb_cast, ileb_eq, ieqb_dec, indexAddrA, inB_dec, evPairs, storeA, AV.cellsOf, pairsOf, xI_nil, binBool, gcE, evOpt, xI_block, xI_loopH, xI_condM, xI_exitM, xI_skip, xI_blk, exitA, ty2, ty3, ty4, ty5, ty9, ty41, ty73, ty74, ty76, eK18_0_0, eK18_1_2, eK18_2_4, eK18_2_3, eK18_2_2, fieldAddrA, allOne, AV.one, indexA, ty2, ty3, ty4, ty5, ty9, ty29, ty33, ty41, ty73, ty74, ty76, hc, hc2, hc3, hc4, ho1, ho2, ho3, ho4, z1, z2, z3, z4]
        have mid : exI TT (FI.of Try.f18 (TT.an 18)) R18_0_0 [(1, .lst more.length (byts more)), (5, .ptr 0 0), (6, .sl b 0 n n), (7, .int .i64 n), (31, .bool false)] σ = some (.bool true, σ) := by
          rw [← lp.trans fin, fi18]
          simp only [R18_0_0, b18, Try.f18, Option.getD, fstC, sndC, bodyC, thnC, elsC]
          simp [xI_seq, xI_region, xI_ret, regA, regOps, runOps, opStep, wantedA, opA, evo, evos, calleeA, lk, nif_eq, putE, paramsE, valS, val2, keepE, restrict, finA, resA, binA, binInt, ofConst, ofConst1, loadA, TK.isAgg, asVar, unA, builtinA, lenOpA, lenA, ileb_cast, ileb_eq, ieqb_dec, indexAddrA, inB_dec, evPairs, storeA, AV.cellsOf, pairsOf, xI_nil, binBool, gcE, evOpt, xI_block, xI_loopH, xI_condM, xI_exitM, xI_skip, xI_blk, exitA, ty2, ty3, ty4, ty5, ty9, ty41, ty73, ty74, ty76, eK18_0_0, eK18_1_2, eK18_2_4, eK18_2_3, eK18_2_2, fieldAddrA, allOne, AV.one, indexA, ty2, ty3, ty4, ty5, ty9, ty29, ty33, ty41, ty73, ty74, ty76, e20, hg, c1, c2]
          rfl
        refine FnV.mk fn18 rfl md18 ⟨σ, ?_⟩ (fun _ => rfl) rfl
        rw [← la.trans mid, fi18]
        simp [xI_seq, xI_region, xI_ret, regA, regOps, runOps, opStep, wantedA, opA, evo, evos, calleeA, lk, nif_eq, putE, paramsE, valS, val2, keepE, restrict, finA, resA, binA, binInt, ofConst, ofConst1, loadA, TK.isAgg, asVar, unA, builtinA, lenOpA, lenA, ileb_cast, ileb_eq, ieqb_dec, indexAddrA, inB_dec, evPairs, storeA, AV.cellsOf, pairsOf, xI_nil, binBool, gcE, evOpt, xI_block, xI_loopH, xI_condM, xI_exitM, xI_skip, xI_blk, exitA, ty2, ty3, ty4, ty5, ty9, ty41, ty73, ty74, ty76, eK18_0_0, eK18_1_2, eK18_2_4, eK18_2_3, eK18_2_2, fieldAddrA, allOne, AV.one, indexA, ty2, ty3, ty4, ty5, ty9, ty29, ty33, ty41, ty73, ty74, ty76, eL, eM, hσ1, cs, nσ, bsP0]
        rfl

end Go.Proofs.Ytonnbgjbohbibaa
