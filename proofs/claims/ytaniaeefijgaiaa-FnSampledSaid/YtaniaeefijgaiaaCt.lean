/- Contracts and law: sets of ranks. Nothing is claimed here; no condition. -/
import Derived.Test.YtaniaeefijgaiaaCo
namespace Go.Proofs.Ytaniaeefijgaiaa
open Go Go.Abs
set_option linter.unusedSimpArgs false
set_option linter.unusedVariables false
/-- The set with a rank: m numbers are left, from x on. -/
def setAt : Nat → Nat → Int → Nat → List Int → List Int
  | _, 0, _, _, out => out
  | 0, _ + 1, _, _, out => out
  | m + 1, left + 1, rank, x, out => if rank < ch m left then setAt m left rank (x + 1) (out ++ [(x : Int)]) else setAt m (left + 1) (rank - ch m left) (x + 1) out
theorem setAt_length : ∀ (m left : Nat) (rank : Int) (x : Nat) (out : List Int), (setAt m left rank x out).length ≤ out.length + left
  | 0, 0, _, _, _ => by simp [setAt]
  | _ + 1, 0, _, _, _ => by simp [setAt]
  | 0, left + 1, _, _, out => by simp only [setAt]; omega
  | m + 1, left + 1, rank, x, out => by
    simp only [setAt]
    split
    · have := setAt_length m left rank (x + 1) (out ++ [(x : Int)]); simp at this; omega
    · exact setAt_length m (left + 1) _ (x + 1) out
def setR (N size rank : Int) : Option (List Int) := if inR N 1 60 = true ∧ inR size 0 N = true ∧ inR rank 0 ((ch N.toNat size.toNat : Int) - 1) = true then some (setAt N.toNat size.toNat rank 0 []) else none

noncomputable def b37 : Code := Try.f37.body.getD .skip
noncomputable def B37_0 : Code := (bodyC (bodyC (sndC (fstC (sndC (sndC (sndC b37)))))))
noncomputable def K37_0 : List It := .lp B37_0 :: .blk 0 :: .code (sndC (sndC (sndC (sndC b37)))) :: []
theorem xl37_0 {fi : FI} {env : Env} {σ : St} : exI TT fi K37_0 env σ = exI TT fi (.code B37_0 :: K37_0) env σ := by unfold K37_0; exact xI_lp
noncomputable def R37_0_0 : List It := .code (sndC (sndC (sndC (sndC b37)))) :: []
theorem eK37_0_0 : exitA 0 K37_0 = some R37_0_0 := rfl
theorem l37 (N : Nat) (hN : N ≤ 60) : ∀ (m left : Nat) (rank : Int) (x c : Nat) (σ : St) (b : Nat) (out : List Int), x + m = N → out.length = c → c + left ≤ 60 → left ≤ 60 → 0 ≤ rank → rank < ch m left → Row σ b out →
    ∃ σ' b' n', exI TT (FI.of Try.f37 (TT.an 37)) K37_0 [(0, .int .i64 N), (1, .int .i64 (c + left : Nat)), (2, .int .i64 rank), (8, .sl b 0 c c), (9, .int .i64 x)] σ = some (.tup [.sl b' 0 n' n', .bool true], σ') ∧ Row σ' b' (setAt m left rank x out) ∧ n' = (setAt m left rank x out).length := by
  have exit0 : ∀ (rank : Int) (x c : Nat) (σ : St) (b : Nat) (out : List Int), out.length = c → c < 1000 → Row σ b out → ∀ left : Nat, left = 0 → exI TT (FI.of Try.f37 (TT.an 37)) K37_0 [(0, .int .i64 N), (1, .int .i64 (c + left : Nat)), (2, .int .i64 rank), (8, .sl b 0 c c), (9, .int .i64 x)] σ = some (.tup [.sl b 0 c c, .bool true], σ) := by
    intro rank x c σ b out hc hcl hr left hleft
    subst hleft
    have hL : ∀ τ, (∀ l, Row σ b l → Row τ b l) → callI TT 75 [.sl b 0 c c] τ = some (.int .i64 c, τ) := fun τ hτ => v75 out c τ _ (mapO_cons ((hτ _ hr).frz hc.symm (Nat.le_refl _)) rfl)
    have hL0 := hL σ (fun _ h => h)
    rw [fi37]
    rw [xl37_0]
    simp only [B37_0, b37, Try.f37, Option.getD, fstC, sndC, bodyC, thnC, elsC]
    simp [xI_seq, xI_region, xI_ret, regA, regOps, runOps, opStep, wantedA, opA, evo, evos, calleeA, lk, nif_eq, putE, paramsE, valS, val2, keepE, restrict, finA, resA, binA, binInt, ofConst, ofConst1, loadA, TK.isAgg, asVar, unA, builtinA, lenOpA, lenA, ileb_cast, ileb_eq, ieqb_dec, indexAddrA, inB_dec, evPairs, storeA, AV.cellsOf, pairsOf, xI_nil, binBool, gcE, evOpt, xI_block, xI_loopH, xI_condM, xI_exitM, xI_skip, xI_blk, exitA, ty2, ty4, ty22, eK37_0_0, hL0]
    simp only [R37_0_0, b37, Try.f37, Option.getD, fstC, sndC, bodyC, thnC, elsC]
    simp [xI_seq, xI_region, xI_ret, regA, regOps, runOps, opStep, wantedA, opA, evo, evos, calleeA, lk, nif_eq, putE, paramsE, valS, val2, keepE, restrict, finA, resA, binA, binInt, ofConst, ofConst1, loadA, TK.isAgg, asVar, unA, builtinA, lenOpA, lenA, ileb_cast, ileb_eq, ieqb_dec, indexAddrA, inB_dec, evPairs, storeA, AV.cellsOf, pairsOf, xI_nil, binBool, gcE, evOpt, xI_block, xI_loopH, xI_condM, xI_exitM, xI_skip, xI_blk, exitA, ty2, ty4, ty22, eK37_0_0]
  intro m
  induction m with
  | zero =>
    intro left rank x c σ b out hx hc hcl hleft h0 h1 hr
    cases left with
    | zero => exact ⟨σ, b, c, exit0 rank x c σ b out hc (by omega) hr 0 rfl, hr, hc.symm⟩
    | succ left => simp [ch] at h1; omega
  | succ m ih =>
    intro left rank x c σ b out hx hc hcl hleft h0 h1 hr
    cases left with
    | zero => exact ⟨σ, b, c, exit0 rank x c σ b out hc (by omega) hr 0 rfl, hr, hc.symm⟩
    | succ left =>
      have hL : ∀ τ, (∀ l, Row σ b l → Row τ b l) → callI TT 75 [.sl b 0 c c] τ = some (.int .i64 c, τ) := fun τ hτ => v75 out c τ _ (mapO_cons ((hτ _ hr).frz hc.symm (Nat.le_refl _)) rfl)
      have hL0 := hL σ (fun _ h => h)
      have hsz : ((c + (left + 1) : Nat) : Int) = (c : Int) + left + 1 := by omega
      have w1 : wrapA .i64 ((N : Int) - x) = (N : Int) - x := wrapA_id (by omega) (by omega)
      have w2 : wrapA .i64 ((N : Int) - x - 1) = (m : Int) := by rw [wrapA_id (by omega) (by omega)]; omega
      have w3 : wrapA .i64 ((c : Int) + left + 1 - c) = (left : Int) + 1 := by rw [wrapA_id (by omega) (by omega)]; omega
      have w4 : wrapA .i64 ((left : Int) + 1 - 1) = left := by rw [wrapA_id (by omega) (by omega)]; omega
      have w4' : wrapA .i64 (left : Int) = left := by rw [wrapA_id (by omega) (by omega)]
      have hlt : ¬ (c : Int) + left + 1 ≤ c := by omega
      have hw : wrapA .i64 ((x : Int) + 1) = (x : Int) + 1 := wrapS (by omega)
      have hch := ch_le (n := m) (k := left) (by omega)
      have hle : left ≤ m := by
        rcases Nat.lt_or_ge m left with h | h
        · rw [ch, ch_gt m left h, ch_gt m (left + 1) (by omega)] at h1; omega
        · exact h
      have hcc : ∀ σ, callI TT 84 [.int .i64 m, .int .i64 left] σ = some (.int .i64 (ch m left), σ) := fun σ => c84 m left (by omega) (by omega) σ
      have hx1 : ((x + 1 : Nat) : Int) = (x : Int) + 1 := by omega
      by_cases hrk : rank < ch m left
      · obtain ⟨σ1, ha, hr1, hn1, hf1⟩ := append_row (x := (x : Int)) ty22 ty2 hr hc.symm (by omega)
        obtain ⟨σ', b', n', h2, h3, h4⟩ := ih left rank (x + 1) (c + 1) σ1 (σ.n + 1) (out ++ [(x : Int)]) (by omega) (by simp [hc]) (by omega) (by omega) h0 hrk hr1
        have hs : setAt (m + 1) (left + 1) rank x out = setAt m left rank (x + 1) (out ++ [(x : Int)]) := by simp only [setAt]; rw [if_pos hrk]
        rw [hs]
        refine ⟨σ', b', n', ?_, h3, h4⟩
        have hrk2 : ¬ (ch m left : Int) ≤ rank := by omega
        generalize ch m left = z at *
        rw [show ((c + 1 + left : Nat) : Int) = (c : Int) + left + 1 by omega, hx1] at h2
        rw [hsz]
        rw [fi37] at h2 ⊢
        rw [xl37_0]
        simp only [B37_0, b37, Try.f37, Option.getD, fstC, sndC, bodyC, thnC, elsC]
        simp [xI_seq, xI_region, xI_ret, regA, regOps, runOps, opStep, wantedA, opA, evo, evos, calleeA, lk, nif_eq, putE, paramsE, valS, val2, keepE, restrict, finA, resA, binA, binInt, ofConst, ofConst1, loadA, TK.isAgg, asVar, unA, builtinA, lenOpA, lenA, ileb_cast, ileb_eq, ieqb_dec, indexAddrA, inB_dec, evPairs, storeA, AV.cellsOf, pairsOf, xI_nil, binBool, gcE, evOpt, xI_block, xI_loopH, xI_condM, xI_exitM, xI_skip, xI_blk, exitA, ty2, ty4, ty22, eK37_0_0, w1, w2, w3, w4, w4', hlt, hw, hL0, hcc, hrk, hrk2, bs22, ha]
        exact h2
      · have hr2 : rank - ch m left < ch m (left + 1) := by rw [ch] at h1; omega
        obtain ⟨σ', b', n', h2, h3, h4⟩ := ih (left + 1) (rank - ch m left) (x + 1) c σ b out (by omega) hc (by omega) (by omega) (by omega) hr2 hr
        have hs : setAt (m + 1) (left + 1) rank x out = setAt m (left + 1) (rank - ch m left) (x + 1) out := by simp only [setAt]; rw [if_neg hrk]
        rw [hs]
        refine ⟨σ', b', n', ?_, h3, h4⟩
        have hrk2 : (ch m left : Int) ≤ rank := by omega
        have hch3 := ch_le (n := m + 1) (k := left + 1) (by omega)
        have w9 : wrapA .i64 (rank - ch m left) = rank - ch m left := wrapA_id (by omega) (by omega)
        generalize ch m left = z at *
        rw [hsz, hx1] at h2
        rw [hsz]
        rw [fi37] at h2 ⊢
        rw [xl37_0]
        simp only [B37_0, b37, Try.f37, Option.getD, fstC, sndC, bodyC, thnC, elsC]
        simp [xI_seq, xI_region, xI_ret, regA, regOps, runOps, opStep, wantedA, opA, evo, evos, calleeA, lk, nif_eq, putE, paramsE, valS, val2, keepE, restrict, finA, resA, binA, binInt, ofConst, ofConst1, loadA, TK.isAgg, asVar, unA, builtinA, lenOpA, lenA, ileb_cast, ileb_eq, ieqb_dec, indexAddrA, inB_dec, evPairs, storeA, AV.cellsOf, pairsOf, xI_nil, binBool, gcE, evOpt, xI_block, xI_loopH, xI_condM, xI_exitM, xI_skip, xI_blk, exitA, ty2, ty4, ty22, eK37_0_0, w1, w2, w3, w4, w4', hlt, hw, hL0, hcc, hrk2, w9]
        exact h2

theorem o37 (N size rank : Int) : FnO TT 37 [.int .i64 N, .int .i64 size, .int .i64 rank] (setR N size rank) := by
  cases h1 : inR N 1 60 with
  | false =>
    have hr : setR N size rank = none := by simp [setR, h1]
    rw [hr]
    refine FnO.mkN fn37 rfl md37 ⟨⟨[], 0⟩, ?_⟩
    rw [fi37]
    simp [xI_seq, xI_region, xI_ret, regA, regOps, runOps, opStep, wantedA, opA, evo, evos, calleeA, lk, nif_eq, putE, paramsE, valS, val2, keepE, restrict, finA, resA, binA, binInt, ofConst, ofConst1, loadA, TK.isAgg, asVar, unA, builtinA, lenOpA, lenA, ileb_cast, ileb_eq, ieqb_dec, indexAddrA, inB_dec, evPairs, storeA, AV.cellsOf, pairsOf, xI_nil, binBool, gcE, evOpt, xI_block, xI_loopH, xI_condM, xI_exitM, xI_skip, xI_blk, exitA, ty2, ty4, ty22, eK37_0_0, c69, h1]
  | true =>
    cases h2 : inR size 0 N with
    | false =>
      have hr : setR N size rank = none := by simp [setR, h2]
      rw [hr]
      refine FnO.mkN fn37 rfl md37 ⟨⟨[], 0⟩, ?_⟩
      rw [fi37]
      simp [xI_seq, xI_region, xI_ret, regA, regOps, runOps, opStep, wantedA, opA, evo, evos, calleeA, lk, nif_eq, putE, paramsE, valS, val2, keepE, restrict, finA, resA, binA, binInt, ofConst, ofConst1, loadA, TK.isAgg, asVar, unA, builtinA, lenOpA, lenA, ileb_cast, ileb_eq, ieqb_dec, indexAddrA, inB_dec, evPairs, storeA, AV.cellsOf, pairsOf, xI_nil, binBool, gcE, evOpt, xI_block, xI_loopH, xI_condM, xI_exitM, xI_skip, xI_blk, exitA, ty2, ty4, ty22, eK37_0_0, c69, h1, h2]
    | true =>
      have k1 := inR_iff.1 h1
      have k2 := inR_iff.1 h2
      obtain ⟨n, rfl⟩ : ∃ n : Nat, N = n := ⟨N.toNat, by omega⟩
      obtain ⟨s, rfl⟩ : ∃ s : Nat, size = s := ⟨size.toNat, by omega⟩
      have hcc : ∀ σ, callI TT 84 [.int .i64 n, .int .i64 s] σ = some (.int .i64 (ch n s), σ) := fun σ => c84 n s (by omega) (by omega) σ
      have hch := ch_le (n := n) (k := s) (by omega)
      have w9 : wrapA .i64 ((ch n s : Int) - 1) = (ch n s : Int) - 1 := wrapA_id (by omega) (by omega)
      cases h3 : inR rank 0 ((ch n s : Int) - 1) with
      | false =>
        have hr : setR n s rank = none := by simp [setR, h3]
        rw [hr]
        refine FnO.mkN fn37 rfl md37 ⟨⟨[], 0⟩, ?_⟩
        rw [fi37]
        generalize ch n s = z at *
        simp [xI_seq, xI_region, xI_ret, regA, regOps, runOps, opStep, wantedA, opA, evo, evos, calleeA, lk, nif_eq, putE, paramsE, valS, val2, keepE, restrict, finA, resA, binA, binInt, ofConst, ofConst1, loadA, TK.isAgg, asVar, unA, builtinA, lenOpA, lenA, ileb_cast, ileb_eq, ieqb_dec, indexAddrA, inB_dec, evPairs, storeA, AV.cellsOf, pairsOf, xI_nil, binBool, gcE, evOpt, xI_block, xI_loopH, xI_condM, xI_exitM, xI_skip, xI_blk, exitA, ty2, ty4, ty22, eK37_0_0, c69, h1, h2, hcc, w9, h3]
      | true =>
        have k3 := inR_iff.1 h3
        have hr : setR n s rank = some (setAt n s rank 0 []) := by simp [setR, h1, h2, h3]
        rw [hr]
        obtain ⟨σ', b', n', h4, ⟨o, h5, _⟩, h6⟩ := l37 n (by omega) n s rank 0 0 ((⟨[], 0⟩ : St).push ⟨ints [], 1, false⟩) 0 [] (by omega) rfl (by omega) (by omega) (by omega) (by omega) Row.push
        refine FnO.mkS fn37 rfl md37 ⟨σ', b', o, ?_, h5⟩
        rw [← h6]
        rw [show ((0 + s : Nat) : Int) = (s : Int) by omega] at h4
        have hb := bn22 ⟨[], 0⟩
        rw [fi37] at h4 ⊢
        generalize ch n s = z at *
        simp [xI_seq, xI_region, xI_ret, regA, regOps, runOps, opStep, wantedA, opA, evo, evos, calleeA, lk, nif_eq, putE, paramsE, valS, val2, keepE, restrict, finA, resA, binA, binInt, ofConst, ofConst1, loadA, TK.isAgg, asVar, unA, builtinA, lenOpA, lenA, ileb_cast, ileb_eq, ieqb_dec, indexAddrA, inB_dec, evPairs, storeA, AV.cellsOf, pairsOf, xI_nil, binBool, gcE, evOpt, xI_block, xI_loopH, xI_condM, xI_exitM, xI_skip, xI_blk, exitA, ty2, ty4, ty22, eK37_0_0, c69, h1, h2, hcc, w9, h3, hb]
        exact h4

noncomputable def b36 : Code := Try.f36.body.getD .skip
noncomputable def B36_0 : Code := (bodyC (bodyC (sndC (fstC (sndC (sndC (sndC (sndC b36))))))))
noncomputable def K36_0 : List It := .lp B36_0 :: .blk 0 :: .code (sndC (sndC (sndC (sndC (sndC b36))))) :: []
theorem xl36_0 {fi : FI} {env : Env} {σ : St} : exI TT fi K36_0 env σ = exI TT fi (.code B36_0 :: K36_0) env σ := by unfold K36_0; exact xI_lp
noncomputable def R36_0_0 : List It := .code (sndC (sndC (sndC (sndC (sndC b36))))) :: []
theorem eK36_0_0 : exitA 0 K36_0 = some R36_0_0 := rfl
theorem l36 (N : Nat) (hN : N ≤ 60) : ∀ (m left : Nat) (rank : Int) (x c : Nat) (σ : St) (b : Nat) (out : List Int), x + m = N → out.length = c → c + left ≤ 60 → left ≤ 60 → 0 ≤ rank → rank < ch m left → Row σ b out →
    ∃ σ' b' n', exI TT (FI.of Try.f36 (TT.an 36)) K36_0 [(0, .int .i64 N), (2, .int .i64 rank), (8, .sl b 0 c c), (9, .int .i64 x), (10, .int .i64 left)] σ = some (.tup [.sl b' 0 n' n', .bool true], σ') ∧ Row σ' b' (setAt m left rank x out) ∧ n' = (setAt m left rank x out).length := by
  have exit0 : ∀ (rank : Int) (x c : Nat) (σ : St) (b : Nat) (out : List Int), out.length = c → c < 1000 → Row σ b out → ∀ left : Nat, left = 0 → exI TT (FI.of Try.f36 (TT.an 36)) K36_0 [(0, .int .i64 N), (2, .int .i64 rank), (8, .sl b 0 c c), (9, .int .i64 x), (10, .int .i64 left)] σ = some (.tup [.sl b 0 c c, .bool true], σ) := by
    intro rank x c σ b out hc hcl hr left hleft
    subst hleft
    rw [fi36]
    rw [xl36_0]
    simp only [B36_0, b36, Try.f36, Option.getD, fstC, sndC, bodyC, thnC, elsC]
    simp [xI_seq, xI_region, xI_ret, regA, regOps, runOps, opStep, wantedA, opA, evo, evos, calleeA, lk, nif_eq, putE, paramsE, valS, val2, keepE, restrict, finA, resA, binA, binInt, ofConst, ofConst1, loadA, TK.isAgg, asVar, unA, builtinA, lenOpA, lenA, ileb_cast, ileb_eq, ieqb_dec, indexAddrA, inB_dec, evPairs, storeA, AV.cellsOf, pairsOf, xI_nil, binBool, gcE, evOpt, xI_block, xI_loopH, xI_condM, xI_exitM, xI_skip, xI_blk, exitA, ty2, ty4, ty22, eK36_0_0]
    simp only [R36_0_0, b36, Try.f36, Option.getD, fstC, sndC, bodyC, thnC, elsC]
    simp [xI_seq, xI_region, xI_ret, regA, regOps, runOps, opStep, wantedA, opA, evo, evos, calleeA, lk, nif_eq, putE, paramsE, valS, val2, keepE, restrict, finA, resA, binA, binInt, ofConst, ofConst1, loadA, TK.isAgg, asVar, unA, builtinA, lenOpA, lenA, ileb_cast, ileb_eq, ieqb_dec, indexAddrA, inB_dec, evPairs, storeA, AV.cellsOf, pairsOf, xI_nil, binBool, gcE, evOpt, xI_block, xI_loopH, xI_condM, xI_exitM, xI_skip, xI_blk, exitA, ty2, ty4, ty22, eK36_0_0]
  intro m
  induction m with
  | zero =>
    intro left rank x c σ b out hx hc hcl hleft h0 h1 hr
    cases left with
    | zero => exact ⟨σ, b, c, exit0 rank x c σ b out hc (by omega) hr 0 rfl, hr, hc.symm⟩
    | succ left => simp [ch] at h1; omega
  | succ m ih =>
    intro left rank x c σ b out hx hc hcl hleft h0 h1 hr
    cases left with
    | zero => exact ⟨σ, b, c, exit0 rank x c σ b out hc (by omega) hr 0 rfl, hr, hc.symm⟩
    | succ left =>

      have w1 : wrapA .i64 ((N : Int) - 1) = (N : Int) - 1 := wrapA_id (by omega) (by omega)
      have w2 : wrapA .i64 ((N : Int) - 1 - x) = (m : Int) := by rw [wrapA_id (by omega) (by omega)]; omega
      have w3 : wrapA .i64 ((left : Int) + 1 - 1) = left := by rw [wrapA_id (by omega) (by omega)]; omega
      have w4 : wrapA .i64 (left : Int) = left := by rw [wrapA_id (by omega) (by omega)]
      have w4' := w4
      have hsz : ((left + 1 : Nat) : Int) = (left : Int) + 1 := by omega
      have hlt : ¬ (left : Int) + 1 ≤ 0 := by omega
      have hw : wrapA .i64 ((x : Int) + 1) = (x : Int) + 1 := wrapS (by omega)
      have hch := ch_le (n := m) (k := left) (by omega)
      have hle : left ≤ m := by
        rcases Nat.lt_or_ge m left with h | h
        · rw [ch, ch_gt m left h, ch_gt m (left + 1) (by omega)] at h1; omega
        · exact h
      have hcc : ∀ σ, callI TT 83 [.int .i64 m, .int .i64 left] σ = some (.int .i64 (ch m left), σ) := fun σ => c83 m left (by omega) (by omega) σ
      have hx1 : ((x + 1 : Nat) : Int) = (x : Int) + 1 := by omega
      by_cases hrk : rank < ch m left
      · obtain ⟨σ1, ha, hr1, hn1, hf1⟩ := append_row (x := (x : Int)) ty22 ty2 hr hc.symm (by omega)
        obtain ⟨σ', b', n', h2, h3, h4⟩ := ih left rank (x + 1) (c + 1) σ1 (σ.n + 1) (out ++ [(x : Int)]) (by omega) (by simp [hc]) (by omega) (by omega) h0 hrk hr1
        have hs : setAt (m + 1) (left + 1) rank x out = setAt m left rank (x + 1) (out ++ [(x : Int)]) := by simp only [setAt]; rw [if_pos hrk]
        rw [hs]
        refine ⟨σ', b', n', ?_, h3, h4⟩
        have hrk2 : ¬ (ch m left : Int) ≤ rank := by omega
        generalize ch m left = z at *
        rw [hx1] at h2
        rw [hsz]
        rw [fi36] at h2 ⊢
        rw [xl36_0]
        simp only [B36_0, b36, Try.f36, Option.getD, fstC, sndC, bodyC, thnC, elsC]
        simp [xI_seq, xI_region, xI_ret, regA, regOps, runOps, opStep, wantedA, opA, evo, evos, calleeA, lk, nif_eq, putE, paramsE, valS, val2, keepE, restrict, finA, resA, binA, binInt, ofConst, ofConst1, loadA, TK.isAgg, asVar, unA, builtinA, lenOpA, lenA, ileb_cast, ileb_eq, ieqb_dec, indexAddrA, inB_dec, evPairs, storeA, AV.cellsOf, pairsOf, xI_nil, binBool, gcE, evOpt, xI_block, xI_loopH, xI_condM, xI_exitM, xI_skip, xI_blk, exitA, ty2, ty4, ty22, eK36_0_0, w1, w2, w3, w4, w4', hlt, hw, hcc, hrk, hrk2, bs22, ha]
        exact h2
      · have hr2 : rank - ch m left < ch m (left + 1) := by rw [ch] at h1; omega
        obtain ⟨σ', b', n', h2, h3, h4⟩ := ih (left + 1) (rank - ch m left) (x + 1) c σ b out (by omega) hc (by omega) (by omega) (by omega) hr2 hr
        have hs : setAt (m + 1) (left + 1) rank x out = setAt m (left + 1) (rank - ch m left) (x + 1) out := by simp only [setAt]; rw [if_neg hrk]
        rw [hs]
        refine ⟨σ', b', n', ?_, h3, h4⟩
        have hrk2 : (ch m left : Int) ≤ rank := by omega
        have hch3 := ch_le (n := m + 1) (k := left + 1) (by omega)
        have w9 : wrapA .i64 (rank - ch m left) = rank - ch m left := wrapA_id (by omega) (by omega)
        generalize ch m left = z at *
        rw [hsz, hx1] at h2
        rw [hsz]
        rw [fi36] at h2 ⊢
        rw [xl36_0]
        simp only [B36_0, b36, Try.f36, Option.getD, fstC, sndC, bodyC, thnC, elsC]
        simp [xI_seq, xI_region, xI_ret, regA, regOps, runOps, opStep, wantedA, opA, evo, evos, calleeA, lk, nif_eq, putE, paramsE, valS, val2, keepE, restrict, finA, resA, binA, binInt, ofConst, ofConst1, loadA, TK.isAgg, asVar, unA, builtinA, lenOpA, lenA, ileb_cast, ileb_eq, ieqb_dec, indexAddrA, inB_dec, evPairs, storeA, AV.cellsOf, pairsOf, xI_nil, binBool, gcE, evOpt, xI_block, xI_loopH, xI_condM, xI_exitM, xI_skip, xI_blk, exitA, ty2, ty4, ty22, eK36_0_0, w1, w2, w3, w4, w4', hlt, hw, hcc, hrk2, w9]
        exact h2

theorem o36 (N size rank : Int) : FnO TT 36 [.int .i64 N, .int .i64 size, .int .i64 rank] (setR N size rank) := by
  cases h1 : inR N 1 60 with
  | false =>
    have hr : setR N size rank = none := by simp [setR, h1]
    rw [hr]
    refine FnO.mkN fn36 rfl md36 ⟨⟨[], 0⟩, ?_⟩
    rw [fi36]
    simp [xI_seq, xI_region, xI_ret, regA, regOps, runOps, opStep, wantedA, opA, evo, evos, calleeA, lk, nif_eq, putE, paramsE, valS, val2, keepE, restrict, finA, resA, binA, binInt, ofConst, ofConst1, loadA, TK.isAgg, asVar, unA, builtinA, lenOpA, lenA, ileb_cast, ileb_eq, ieqb_dec, indexAddrA, inB_dec, evPairs, storeA, AV.cellsOf, pairsOf, xI_nil, binBool, gcE, evOpt, xI_block, xI_loopH, xI_condM, xI_exitM, xI_skip, xI_blk, exitA, ty2, ty4, ty22, eK36_0_0, c82, c66, h1]
  | true =>
    cases h2 : inR size 0 N with
    | false =>
      have hr : setR N size rank = none := by simp [setR, h2]
      rw [hr]
      refine FnO.mkN fn36 rfl md36 ⟨⟨[], 0⟩, ?_⟩
      rw [fi36]
      simp [xI_seq, xI_region, xI_ret, regA, regOps, runOps, opStep, wantedA, opA, evo, evos, calleeA, lk, nif_eq, putE, paramsE, valS, val2, keepE, restrict, finA, resA, binA, binInt, ofConst, ofConst1, loadA, TK.isAgg, asVar, unA, builtinA, lenOpA, lenA, ileb_cast, ileb_eq, ieqb_dec, indexAddrA, inB_dec, evPairs, storeA, AV.cellsOf, pairsOf, xI_nil, binBool, gcE, evOpt, xI_block, xI_loopH, xI_condM, xI_exitM, xI_skip, xI_blk, exitA, ty2, ty4, ty22, eK36_0_0, c82, c66, h1, h2]
    | true =>
      have k1 := inR_iff.1 h1
      have k2 := inR_iff.1 h2
      obtain ⟨n, rfl⟩ : ∃ n : Nat, N = n := ⟨N.toNat, by omega⟩
      obtain ⟨s, rfl⟩ : ∃ s : Nat, size = s := ⟨size.toNat, by omega⟩
      have hcc : ∀ σ, callI TT 83 [.int .i64 n, .int .i64 s] σ = some (.int .i64 (ch n s), σ) := fun σ => c83 n s (by omega) (by omega) σ
      have hch := ch_le (n := n) (k := s) (by omega)
      have w9 : wrapA .i64 ((ch n s : Int) - 1) = (ch n s : Int) - 1 := wrapA_id (by omega) (by omega)
      cases h3 : inR rank 0 ((ch n s : Int) - 1) with
      | false =>
        have hr : setR n s rank = none := by simp [setR, h3]
        rw [hr]
        refine FnO.mkN fn36 rfl md36 ⟨⟨[], 0⟩, ?_⟩
        rw [fi36]
        generalize ch n s = z at *
        simp [xI_seq, xI_region, xI_ret, regA, regOps, runOps, opStep, wantedA, opA, evo, evos, calleeA, lk, nif_eq, putE, paramsE, valS, val2, keepE, restrict, finA, resA, binA, binInt, ofConst, ofConst1, loadA, TK.isAgg, asVar, unA, builtinA, lenOpA, lenA, ileb_cast, ileb_eq, ieqb_dec, indexAddrA, inB_dec, evPairs, storeA, AV.cellsOf, pairsOf, xI_nil, binBool, gcE, evOpt, xI_block, xI_loopH, xI_condM, xI_exitM, xI_skip, xI_blk, exitA, ty2, ty4, ty22, eK36_0_0, c82, c66, h1, h2, hcc, w9, h3]
      | true =>
        have k3 := inR_iff.1 h3
        have hr : setR n s rank = some (setAt n s rank 0 []) := by simp [setR, h1, h2, h3]
        rw [hr]
        obtain ⟨σ', b', n', h4, ⟨o, h5, _⟩, h6⟩ := l36 n (by omega) n s rank 0 0 ((⟨[], 0⟩ : St).push ⟨ints [], 1, false⟩) 0 [] (by omega) rfl (by omega) (by omega) (by omega) (by omega) Row.push
        refine FnO.mkS fn36 rfl md36 ⟨σ', b', o, ?_, h5⟩
        rw [← h6]
        have hb := bn22 ⟨[], 0⟩
        rw [fi36] at h4 ⊢
        generalize ch n s = z at *
        simp [xI_seq, xI_region, xI_ret, regA, regOps, runOps, opStep, wantedA, opA, evo, evos, calleeA, lk, nif_eq, putE, paramsE, valS, val2, keepE, restrict, finA, resA, binA, binInt, ofConst, ofConst1, loadA, TK.isAgg, asVar, unA, builtinA, lenOpA, lenA, ileb_cast, ileb_eq, ieqb_dec, indexAddrA, inB_dec, evPairs, storeA, AV.cellsOf, pairsOf, xI_nil, binBool, gcE, evOpt, xI_block, xI_loopH, xI_condM, xI_exitM, xI_skip, xI_blk, exitA, ty2, ty4, ty22, eK36_0_0, c82, c66, h1, h2, hcc, w9, h3, hb]
        exact h4

theorem setR_length {N size rank : Int} {out : List Int} (h : setR N size rank = some out) : out.length ≤ 60 := by
  unfold setR at h
  split at h
  · rename_i hc
    cases h
    have h1 := inR_iff.1 hc.1
    have h2 := inR_iff.1 hc.2.1
    have := setAt_length N.toNat size.toNat rank 0 []
    simp at this; omega
  · cases h

end Go.Proofs.Ytaniaeefijgaiaa
