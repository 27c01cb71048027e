/- Contracts: states behind what is seen, told by the reference. Nothing is claimed here; no condition. -/
import Derived.Test.YtonnbgjbohbibaaEv
namespace Go.Proofs.Ytonnbgjbohbibaa
open Go Go.Abs
set_option linter.unusedSimpArgs false
set_option linter.unusedVariables false
open Go.Wd
noncomputable def b118 : Code := Try.f118.body.getD .skip
noncomputable def B118_0 : Code := (bodyC (bodyC (sndC (fstC (sndC (sndC b118))))))
noncomputable def K118_0 : List It := .lp B118_0 :: .blk 0 :: .code (sndC (sndC (sndC b118))) :: []
theorem xl118_0 {fi : FI} {env : Env} {σ : St} : exI TT fi K118_0 env σ = exI TT fi (.code B118_0 :: K118_0) env σ := by unfold K118_0; exact xI_lp
noncomputable def R118_0_0 : List It := .code (sndC (sndC (sndC b118))) :: []
theorem eK118_0_0 : exitA 0 K118_0 = some R118_0_0 := rfl
theorem npairs_get {S : List (Nat × Nat)} {i a b : Nat} (h : S[i]? = some (a, b)) : (npairs S)[i]? = some ((a : Int), (b : Int)) := by simp [npairs, h]
theorem seqs_append (w : Nat) (A : List Nat) (o : Nat) (S : List (Nat × Nat)) (x : Nat × Nat) : seqs w A o (S ++ [x]) = seqs w A o S ++ [eqn w (mk A o x.1) x.2] := by simp [seqs]
theorem seqs_length (w : Nat) (A : List Nat) (o : Nat) (S : List (Nat × Nat)) : (seqs w A o S).length = S.length := by simp [seqs]

/-- One step where a pair is valid. -/
theorem i118 (A : List Nat) (o : Nat) (h16 : A.length ≤ 16) (hA : ∀ r ∈ A, r < 2 ^ A.length) (ho : o < 2 ^ A.length) (l : List (Int × Int)) (len : Nat) (hlen : len = l.length) (hl : len ≤ 64) (p : Nat) (x : Blk) (hx : x.cells = lin A.length (nints A) o) (i a b : Nat) (hg : l[i]? = some ((a : Int), (b : Int))) (ha : a ≤ 10000) (hb1 : b ≤ 1) (σ : St) (bb : Nat) (es : List Nat) (hes : es.length = i) (hp : σ.get p = some x) (hpn : p < σ.n) (hpb : p ≠ bb) (hr : Row σ bb (nints es)) :
    ∃ σ' b', exI TT (FI.of Try.f118 (TT.an 118)) K118_0 [(0, .ptr p 0), (1, .lst len (pairs l)), (6, .sl bb 0 i i), (7, .int .i64 i)] σ = exI TT (FI.of Try.f118 (TT.an 118)) K118_0 [(0, .ptr p 0), (1, .lst len (pairs l)), (6, .sl b' 0 (i + 1) (i + 1)), (7, .int .i64 ((i : Int) + 1))] σ' ∧ σ'.get p = some x ∧ p < σ'.n ∧ p ≠ b' ∧ Row σ' b' (nints (es ++ [eqn A.length (mk A o a) b])) := by
  obtain ⟨q2, q1a, q1b⟩ := pairs_get hg
  have hil : i < l.length := (List.getElem?_eq_some_iff.1 hg).1
  have k2 : ∀ σ, cellsAt σ (.lp (pairs l) (i * 2)) 2 = some [.int .i64 a, .int .i64 b] := fun σ => q2
  have k1a : ∀ σ, cellsAt σ (.lp (pairs l) (i * 2)) 1 = some [.int .i64 a] := fun σ => q1a
  have k1b : ∀ σ, cellsAt σ (.lp (pairs l) (i * 2 + 1)) 1 = some [.int .i64 b] := fun σ => q1b
  obtain ⟨σ1, c1, o1⟩ := c121 A o a b h16 hA ho ha hb1 σ p x hp hpn hx
  have hr1 := hr.old o1
  have hp1 : σ1.get p = some x := (o1.2 p hpn).trans hp
  obtain ⟨σ2, a2, r2, n2, u2⟩ := nints_append_row (x := eqn A.length (mk A o a) b) ty33 ty2 hr1 (n := i) hes.symm (by omega)
  have ho1 := o1.1
  refine ⟨σ2, σ1.n + 1, ?_, (u2 p hpb (by omega)).trans hp1, by omega, by omega, r2⟩
  have hi1 := c88 a 0 10000 σ
  have hi2 := c88 b 0 1 σ
  rw [show inR (a : Int) 0 10000 = true from inR_iff.2 (by omega)] at hi1
  rw [show inR (b : Int) 0 1 = true from inR_iff.2 (by omega)] at hi2
  have hlt : ¬ len ≤ i := by omega
  have hlt2 : i < len := by omega
  have hl64 : (len : Int) ≤ 64 := by omega
  have hw := wrapS (n := i) (by omega)
  generalize eqn A.length (mk A o a) b = z at *
  conv => lhs; rw [fi118, xl118_0]; simp only [B118_0, b118, Try.f118, Option.getD, fstC, sndC, bodyC, thnC, elsC]
  rw [fi118]
  simp [xI_seq, xI_region, xI_ret, regA, regOps, runOps, opStep, wantedA, opA, evo, evos, calleeA, lk, nif_eq, putE, paramsE, valS, val2, keepE, restrict, finA, resA, binA, binInt, ofConst, ofConst1, loadA, TK.isAgg, asVar, unA, builtinA, lenOpA, lenA, ileb_cast, ileb_eq, ieqb_dec, indexAddrA, inB_dec, evPairs, storeA, AV.cellsOf, pairsOf, xI_nil, binBool, gcE, evOpt, xI_block, xI_loopH, xI_condM, xI_exitM, xI_skip, xI_blk, exitA, ty2, ty3, ty4, ty33, ty74, ty76, eK118_0_0, fieldAddrA, allOne, AV.one, ty2, ty33, ty41, ty74, ty76, hlt, hlt2, hl64, hl, hw, k2, k1a, k1b, hi1, hi2, c1, bs1, a2]
theorem l118y (A : List Nat) (o : Nat) (h16 : A.length ≤ 16) (hA : ∀ r ∈ A, r < 2 ^ A.length) (ho : o < 2 ^ A.length) (S : List (Nat × Nat)) (hS : ∀ x ∈ S, x.1 ≤ 10000 ∧ x.2 ≤ 1) (hl : S.length ≤ 64) (p : Nat) (x : Blk) (hx : x.cells = lin A.length (nints A) o) : ∀ (suf pre : List (Nat × Nat)) (σ : St) (bb : Nat), S = pre ++ suf → σ.get p = some x → p < σ.n → p ≠ bb → Row σ bb (nints (seqs A.length A o pre)) →
    ∃ σ' b', exI TT (FI.of Try.f118 (TT.an 118)) K118_0 [(0, .ptr p 0), (1, .lst S.length (pairs (npairs S))), (6, .sl bb 0 pre.length pre.length), (7, .int .i64 pre.length)] σ = some (.tup [.sl b' 0 S.length S.length, .bool true], σ') ∧ σ'.get p = some x ∧ p < σ'.n ∧ p ≠ b' ∧ Row σ' b' (nints (seqs A.length A o S)) := by
  intro suf
  induction suf with
  | nil =>
    intro pre σ bb hp h0 hn hb hr
    have hp : S = pre := by simpa using hp
    subst hp
    refine ⟨σ, bb, ?_, h0, hn, hb, hr⟩
    have hl64 : (S.length : Int) ≤ 64 := by omega
    rw [fi118]
    rw [xl118_0]
    simp only [B118_0, b118, Try.f118, Option.getD, fstC, sndC, bodyC, thnC, elsC]
    simp [xI_seq, xI_region, xI_ret, regA, regOps, runOps, opStep, wantedA, opA, evo, evos, calleeA, lk, nif_eq, putE, paramsE, valS, val2, keepE, restrict, finA, resA, binA, binInt, ofConst, ofConst1, loadA, TK.isAgg, asVar, unA, builtinA, lenOpA, lenA, ileb_cast, ileb_eq, ieqb_dec, indexAddrA, inB_dec, evPairs, storeA, AV.cellsOf, pairsOf, xI_nil, binBool, gcE, evOpt, xI_block, xI_loopH, xI_condM, xI_exitM, xI_skip, xI_blk, exitA, ty2, ty3, ty4, ty33, ty74, ty76, eK118_0_0, hl64, hl]
    simp only [R118_0_0, b118, Try.f118, Option.getD, fstC, sndC, bodyC, thnC, elsC]
    simp [xI_seq, xI_region, xI_ret, regA, regOps, runOps, opStep, wantedA, opA, evo, evos, calleeA, lk, nif_eq, putE, paramsE, valS, val2, keepE, restrict, finA, resA, binA, binInt, ofConst, ofConst1, loadA, TK.isAgg, asVar, unA, builtinA, lenOpA, lenA, ileb_cast, ileb_eq, ieqb_dec, indexAddrA, inB_dec, evPairs, storeA, AV.cellsOf, pairsOf, xI_nil, binBool, gcE, evOpt, xI_block, xI_loopH, xI_condM, xI_exitM, xI_skip, xI_blk, exitA, ty2, ty3, ty4, ty33, ty74, ty76, eK118_0_0, hl64, hl]
  | cons y suf ih =>
    intro pre σ bb hp h0 hn hb hr
    obtain ⟨a, b⟩ := y
    have hy := hS (a, b) (by simp [hp])
    obtain ⟨σ1, b1, g1, g2, g3, g4, g5⟩ := i118 A o h16 hA ho (npairs S) S.length (npairs_length S).symm hl p x hx pre.length a b (npairs_get (by simp [hp])) hy.1 hy.2 σ bb _ (seqs_length _ _ _ pre) h0 hn hb hr
    rw [← seqs_append A.length A o pre (a, b)] at g5
    obtain ⟨σ', b', h1, h2⟩ := ih (pre ++ [(a, b)]) σ1 b1 (by simp [hp]) g2 g3 g4 g5
    simp only [show (pre ++ [(a, b)]).length = pre.length + 1 by simp, Int.natCast_add, show ((1 : Nat) : Int) = 1 from rfl] at h1
    exact ⟨σ', b', g1.trans h1, h2⟩
theorem l118n (A : List Nat) (o : Nat) (h16 : A.length ≤ 16) (hA : ∀ r ∈ A, r < 2 ^ A.length) (ho : o < 2 ^ A.length) (l : List (Int × Int)) (len : Nat) (hlen : len = l.length) (hl : len ≤ 64) (p : Nat) (x : Blk) (hx : x.cells = lin A.length (nints A) o) : ∀ (suf pre : List (Int × Int)) (σ : St) (bb : Nat) (es : List Nat), l = pre ++ suf → suf.all sen1 = false → es.length = pre.length → σ.get p = some x → p < σ.n → p ≠ bb → Row σ bb (nints es) →
    ∃ σ' v, exI TT (FI.of Try.f118 (TT.an 118)) K118_0 [(0, .ptr p 0), (1, .lst len (pairs l)), (6, .sl bb 0 pre.length pre.length), (7, .int .i64 pre.length)] σ = some (.tup [v, .bool false], σ') := by
  intro suf
  induction suf with
  | nil => intro pre σ bb es hp h; simp at h
  | cons y suf ih =>
    intro pre σ bb es hp hbad hes h0 hn hb hr
    obtain ⟨a, b⟩ := y
    have hg : l[pre.length]? = some (a, b) := by simp [hp]
    cases hy : sen1 (a, b) with
    | true =>
      rw [List.all_cons, hy, Bool.true_and] at hbad
      simp only [sen1, Bool.and_eq_true] at hy
      have ha := inR_iff.1 hy.1
      have hb1 := inR_iff.1 hy.2
      obtain ⟨a, rfl⟩ : ∃ k : Nat, a = k := ⟨a.toNat, by omega⟩
      obtain ⟨b, rfl⟩ : ∃ k : Nat, b = k := ⟨b.toNat, by omega⟩
      obtain ⟨σ1, b1, g1, g2, g3, g4, g5⟩ := i118 A o h16 hA ho l len hlen hl p x hx pre.length a b hg (by omega) (by omega) σ bb es hes h0 hn hb hr
      obtain ⟨σ', v, h1⟩ := ih (pre ++ [((a : Int), (b : Int))]) σ1 b1 _ (by simp [hp]) hbad (by simp [hes]) g2 g3 g4 g5
      simp only [show (pre ++ [((a : Int), (b : Int))]).length = pre.length + 1 by simp, Int.natCast_add, show ((1 : Nat) : Int) = 1 from rfl] at h1
      exact ⟨σ', v, g1.trans h1⟩
    | false =>
      refine ⟨σ, .sl bb 0 pre.length pre.length, ?_⟩
      obtain ⟨q2, q1a, q1b⟩ := pairs_get hg
      have hil : pre.length < l.length := (List.getElem?_eq_some_iff.1 hg).1
      have k1a : ∀ σ, cellsAt σ (.lp (pairs l) (pre.length * 2)) 1 = some [.int .i64 a] := fun σ => q1a
      have k1b : ∀ σ, cellsAt σ (.lp (pairs l) (pre.length * 2 + 1)) 1 = some [.int .i64 b] := fun σ => q1b
      have hi1 := c88 a 0 10000 σ
      have hi2 := c88 b 0 1 σ
      have hlt : ¬ len ≤ pre.length := by omega
      have hlt2 : pre.length < len := by omega
      have hl64 : (len : Int) ≤ 64 := by omega
      cases h1 : inR a 0 10000 with
      | false =>
        rw [h1] at hi1
        rw [fi118]
        rw [xl118_0]
        simp only [B118_0, b118, Try.f118, Option.getD, fstC, sndC, bodyC, thnC, elsC]
        simp [xI_seq, xI_region, xI_ret, regA, regOps, runOps, opStep, wantedA, opA, evo, evos, calleeA, lk, nif_eq, putE, paramsE, valS, val2, keepE, restrict, finA, resA, binA, binInt, ofConst, ofConst1, loadA, TK.isAgg, asVar, unA, builtinA, lenOpA, lenA, ileb_cast, ileb_eq, ieqb_dec, indexAddrA, inB_dec, evPairs, storeA, AV.cellsOf, pairsOf, xI_nil, binBool, gcE, evOpt, xI_block, xI_loopH, xI_condM, xI_exitM, xI_skip, xI_blk, exitA, ty2, ty3, ty4, ty33, ty74, ty76, eK118_0_0, fieldAddrA, allOne, AV.one, ty2, ty33, ty41, ty74, ty76, hlt, hlt2, hl64, hl, k1a, k1b, hi1, hi2]
      | true =>
        rw [h1] at hi1
        have h2 : inR b 0 1 = false := by simpa [sen1, h1] using hy
        rw [h2] at hi2
        rw [fi118]
        rw [xl118_0]
        simp only [B118_0, b118, Try.f118, Option.getD, fstC, sndC, bodyC, thnC, elsC]
        simp [xI_seq, xI_region, xI_ret, regA, regOps, runOps, opStep, wantedA, opA, evo, evos, calleeA, lk, nif_eq, putE, paramsE, valS, val2, keepE, restrict, finA, resA, binA, binInt, ofConst, ofConst1, loadA, TK.isAgg, asVar, unA, builtinA, lenOpA, lenA, ileb_cast, ileb_eq, ieqb_dec, indexAddrA, inB_dec, evPairs, storeA, AV.cellsOf, pairsOf, xI_nil, binBool, gcE, evOpt, xI_block, xI_loopH, xI_condM, xI_exitM, xI_skip, xI_blk, exitA, ty2, ty3, ty4, ty33, ty74, ty76, eK118_0_0, fieldAddrA, allOne, AV.one, ty2, ty33, ty41, ty74, ty76, hlt, hlt2, hl64, hl, k1a, k1b, hi1, hi2]
theorem r118y (A : List Nat) (o : Nat) (h16 : A.length ≤ 16) (hA : ∀ r ∈ A, r < 2 ^ A.length) (ho : o < 2 ^ A.length) (S : List (Nat × Nat)) (hS : ∀ x ∈ S, x.1 ≤ 10000 ∧ x.2 ≤ 1) (hl : S.length ≤ 64) (p : Nat) (x : Blk) (hx : x.cells = lin A.length (nints A) o) (σ : St) (hp : σ.get p = some x) (hpn : p < σ.n) :
    ∃ σ' b', callI TT 118 [.ptr p 0, .lst S.length (pairs (npairs S))] σ = some (.tup [.sl b' 0 S.length S.length, .bool true], σ') ∧ σ'.get p = some x ∧ p < σ'.n ∧ p ≠ b' ∧ Row σ' b' (nints (seqs A.length A o S)) := by
  obtain ⟨σ', b', h1, h2⟩ := l118y A o h16 hA ho S hS hl p x hx S [] (σ.push ⟨ints [], 1, false⟩) σ.n rfl (by rw [get_push_lt hpn]; exact hp) (by rw [n_push]; omega) (by omega) Row.push
  refine ⟨σ', b', ?_, h2⟩
  simp only [List.length_nil, Int.natCast_zero, show ((0 : Nat) : Int) = 0 from rfl] at h1
  rw [cI_0 fn118 rfl md118, ← h1, fi118]
  simp [xI_seq, xI_region, xI_ret, regA, regOps, runOps, opStep, wantedA, opA, evo, evos, calleeA, lk, nif_eq, putE, paramsE, valS, val2, keepE, restrict, finA, resA, binA, binInt, ofConst, ofConst1, loadA, TK.isAgg, asVar, unA, builtinA, lenOpA, lenA, ileb_cast, ileb_eq, ieqb_dec, indexAddrA, inB_dec, evPairs, storeA, AV.cellsOf, pairsOf, xI_nil, binBool, gcE, evOpt, xI_block, xI_loopH, xI_condM, xI_exitM, xI_skip, xI_blk, exitA, ty2, ty3, ty4, ty33, ty74, ty76, eK118_0_0, bn0]
  rfl
theorem r118n (A : List Nat) (o : Nat) (h16 : A.length ≤ 16) (hA : ∀ r ∈ A, r < 2 ^ A.length) (ho : o < 2 ^ A.length) (l : List (Int × Int)) (hll : l.length < 1000000000000) (hbad : senOk l = false) (p : Nat) (x : Blk) (hx : x.cells = lin A.length (nints A) o) (σ : St) (hp : σ.get p = some x) (hpn : p < σ.n) :
    ∃ σ' v, callI TT 118 [.ptr p 0, .lst l.length (pairs l)] σ = some (.tup [v, .bool false], σ') := by
  by_cases hl : l.length ≤ 64
  · have hb : l.all sen1 = false := by simpa [senOk, hl] using hbad
    obtain ⟨σ', v, h1⟩ := l118n A o h16 hA ho l l.length rfl hl p x hx l [] (σ.push ⟨ints [], 1, false⟩) σ.n [] rfl hb rfl (by rw [get_push_lt hpn]; exact hp) (by rw [n_push]; omega) (by omega) Row.push
    refine ⟨σ', v, ?_⟩
    simp only [List.length_nil, Int.natCast_zero, show ((0 : Nat) : Int) = 0 from rfl] at h1
    rw [cI_0 fn118 rfl md118, ← h1, fi118]
    simp [xI_seq, xI_region, xI_ret, regA, regOps, runOps, opStep, wantedA, opA, evo, evos, calleeA, lk, nif_eq, putE, paramsE, valS, val2, keepE, restrict, finA, resA, binA, binInt, ofConst, ofConst1, loadA, TK.isAgg, asVar, unA, builtinA, lenOpA, lenA, ileb_cast, ileb_eq, ieqb_dec, indexAddrA, inB_dec, evPairs, storeA, AV.cellsOf, pairsOf, xI_nil, binBool, gcE, evOpt, xI_block, xI_loopH, xI_condM, xI_exitM, xI_skip, xI_blk, exitA, ty2, ty3, ty4, ty33, ty74, ty76, eK118_0_0, bn0]
    rfl
  · have h64 : ¬ (l.length : Int) ≤ 64 := by omega
    have h0 : (0 : Int) < (l.length : Int) := by omega
    have hne : ¬ l = [] := by intro h; subst h; simp at h0
    have h1 : exI TT (FI.of Try.f118 (TT.an 118)) K118_0 [(0, .ptr p 0), (1, .lst l.length (pairs l)), (6, .sl σ.n 0 0 0), (7, .int .i64 0)] (σ.push ⟨ints [], 1, false⟩) = some (.tup [.sl σ.n 0 0 0, .bool false], σ.push ⟨ints [], 1, false⟩) := by
      rw [fi118]
      rw [xl118_0]
      simp only [B118_0, b118, Try.f118, Option.getD, fstC, sndC, bodyC, thnC, elsC]
      simp [xI_seq, xI_region, xI_ret, regA, regOps, runOps, opStep, wantedA, opA, evo, evos, calleeA, lk, nif_eq, putE, paramsE, valS, val2, keepE, restrict, finA, resA, binA, binInt, ofConst, ofConst1, loadA, TK.isAgg, asVar, unA, builtinA, lenOpA, lenA, ileb_cast, ileb_eq, ieqb_dec, indexAddrA, inB_dec, evPairs, storeA, AV.cellsOf, pairsOf, xI_nil, binBool, gcE, evOpt, xI_block, xI_loopH, xI_condM, xI_exitM, xI_skip, xI_blk, exitA, ty2, ty3, ty4, ty33, ty74, ty76, eK118_0_0, h64, h0, hl, hne]
      simp only [R118_0_0, b118, Try.f118, Option.getD, fstC, sndC, bodyC, thnC, elsC]
      simp [xI_seq, xI_region, xI_ret, regA, regOps, runOps, opStep, wantedA, opA, evo, evos, calleeA, lk, nif_eq, putE, paramsE, valS, val2, keepE, restrict, finA, resA, binA, binInt, ofConst, ofConst1, loadA, TK.isAgg, asVar, unA, builtinA, lenOpA, lenA, ileb_cast, ileb_eq, ieqb_dec, indexAddrA, inB_dec, evPairs, storeA, AV.cellsOf, pairsOf, xI_nil, binBool, gcE, evOpt, xI_block, xI_loopH, xI_condM, xI_exitM, xI_skip, xI_blk, exitA, ty2, ty3, ty4, ty33, ty74, ty76, eK118_0_0, h64, hl]
    refine ⟨σ.push ⟨ints [], 1, false⟩, .sl σ.n 0 0 0, ?_⟩
    rw [cI_0 fn118 rfl md118, ← h1, fi118]
    simp [xI_seq, xI_region, xI_ret, regA, regOps, runOps, opStep, wantedA, opA, evo, evos, calleeA, lk, nif_eq, putE, paramsE, valS, val2, keepE, restrict, finA, resA, binA, binInt, ofConst, ofConst1, loadA, TK.isAgg, asVar, unA, builtinA, lenOpA, lenA, ileb_cast, ileb_eq, ieqb_dec, indexAddrA, inB_dec, evPairs, storeA, AV.cellsOf, pairsOf, xI_nil, binBool, gcE, evOpt, xI_block, xI_loopH, xI_condM, xI_exitM, xI_skip, xI_blk, exitA, ty2, ty3, ty4, ty33, ty74, ty76, eK118_0_0, bn0]
    rfl

/-- The states behind what is seen: the least one, and how many bits are free. -/
def stB (w : Int) (R : List Int) (o : Int) (l : List (Int × Int)) : Option (Nat × Nat) := if (vlin w R o && senOk l) = true then (match addAll R.length [] (seqs R.length (nats R) o.toNat (natP l)) with | some rows => some (least R.length rows, R.length - rows.length) | none => none) else none
def stV (r : Option (Nat × Nat)) : AV := match r with
  | some (a, b) => .tup [.int .i64 a, .int .i64 b, .bool true]
  | none => .tup [.int .i64 0, .int .i64 0, .bool false]
theorem stB_no {w : Int} {R : List Int} {o : Int} {l : List (Int × Int)} (h : (vlin w R o && senOk l) = false) : stB w R o l = none := by simp [stB, h]
theorem stB_yes {A : List Nat} {k : Nat} {S : List (Nat × Nat)} (h : (vlin (A.length : Int) (nints A) k && senOk (npairs S)) = true) : stB (A.length : Int) (nints A) k (npairs S) = (match addAll A.length [] (seqs A.length A k S) with | some rows => some (least A.length rows, A.length - rows.length) | none => none) := by
  unfold stB; rw [if_pos h]; simp [nats_nints, nints_length, natP_npairs]
theorem sen_ok {l : List (Int × Int)} (h : senOk l = true) : ∃ S : List (Nat × Nat), l = npairs S ∧ S.length ≤ 64 ∧ ∀ x ∈ S, x.1 ≤ 10000 ∧ x.2 ≤ 1 := by
  simp only [senOk, Bool.and_eq_true, decide_eq_true_eq] at h
  obtain ⟨S, rfl, hS⟩ := sen_nat h.2
  exact ⟨S, rfl, by have := h.1; rwa [npairs_length] at this, hS⟩

theorem v71 (w : Int) (R : List Int) (o : Int) (l : List (Int × Int)) (hs : R.length < 1000000000000) (hll : l.length < 1000000000000) : FnV TT 71 [.agg (lin w R o), .lst l.length (pairs l)] (stV (stB w R o l)) := by
  have hsc : ∀ r, (stV r).scal = true := fun r => by cases r <;> rfl
  have hfz : ∀ r σ1, frzV σ1 frzDepth (stV r) = some (stV r) := fun r σ1 => by cases r <;> rfl
  refine FnV.mk fn71 rfl md71 ?_ (hfz _) (hsc _)
  obtain ⟨σ, hσ⟩ : ∃ σ, (⟨[], 0⟩ : St).push ⟨lin w R o, 3, false⟩ = σ := ⟨_, rfl⟩
  have hg : σ.get 0 = some ⟨lin w R o, 3, false⟩ := by subst hσ; rfl
  have hn1 : σ.n = 1 := by subst hσ; rfl
  have h := c83 w R o hs σ 0 _ hg rfl
  cases h1 : vlin w R o with
  | false =>
    rw [h1] at h
    rw [stB_no (by rw [h1]; rfl), fi71]
    simp only [lin, stV] at hσ ⊢
    simp [xI_seq, xI_region, xI_ret, regA, regOps, runOps, opStep, wantedA, opA, evo, evos, calleeA, lk, nif_eq, putE, paramsE, valS, val2, keepE, restrict, finA, resA, binA, binInt, ofConst, ofConst1, loadA, TK.isAgg, asVar, unA, builtinA, lenOpA, lenA, ileb_cast, ileb_eq, ieqb_dec, indexAddrA, inB_dec, evPairs, storeA, AV.cellsOf, pairsOf, xI_nil, binBool, gcE, evOpt, xI_block, xI_loopH, xI_condM, xI_exitM, xI_skip, xI_blk, exitA, ty2, ty4, ty41, fieldAddrA, allOne, AV.one, n_push, ty2, ty33, ty38, ty41, hσ, h]
  | true =>
    rw [h1] at h
    obtain ⟨A, k, rfl, rfl, rfl, h2, h3, h4, h5⟩ := vlin_nat2 h1
    cases hk : senOk l with
    | false =>
      rw [stB_no (by rw [hk, Bool.and_false])]
      obtain ⟨σ1, v1, c1⟩ := r118n A k h3 h4 h5 l hll hk 0 _ rfl σ hg (by omega)
      rw [fi71]
      simp only [lin, stV, nints_length] at hσ ⊢
      simp [xI_seq, xI_region, xI_ret, regA, regOps, runOps, opStep, wantedA, opA, evo, evos, calleeA, lk, nif_eq, putE, paramsE, valS, val2, keepE, restrict, finA, resA, binA, binInt, ofConst, ofConst1, loadA, TK.isAgg, asVar, unA, builtinA, lenOpA, lenA, ileb_cast, ileb_eq, ieqb_dec, indexAddrA, inB_dec, evPairs, storeA, AV.cellsOf, pairsOf, xI_nil, binBool, gcE, evOpt, xI_block, xI_loopH, xI_condM, xI_exitM, xI_skip, xI_blk, exitA, ty2, ty4, ty41, fieldAddrA, allOne, AV.one, n_push, ty2, ty33, ty38, ty41, hσ, h, c1]
    | true =>
      obtain ⟨S, rfl, hSl, hS⟩ := sen_ok hk
      obtain ⟨σ1, b1, c1, g1, gn, gb, r1⟩ := r118y A k h3 h4 h5 S hS hSl 0 _ rfl σ hg (by omega)
      have hlt := seqs_lt (w := A.length) h4 h5 hS
      have hsl := seqs_length A.length A k S
      have cL := v110 A.length h3 (seqs A.length A k S) (by omega) hlt σ1 _ (row_frz r1 (.int .i64 (A.length : Int)) rfl rfl)
      rw [hsl] at cL
      have hcan := addAll_can (w := A.length) (by omega) hlt
      have hcw : cellsAt σ1 (.ptr 0 0) 1 = some [.int .i64 A.length] := by simp [cellsAt, g1, lin, getCells, takeN, dropN]
      rw [stB_yes (by rw [h1, hk]; rfl)]
      rw [npairs_length]
      simp only [lin, nints_length] at hσ ⊢
      cases ha : addAll A.length [] (seqs A.length A k S) with
      | none =>
        rw [hcan.1 ha] at cL
        simp only [Bool.false_eq_true, if_false] at cL
        simp only [stV]
        rw [fi71]
        simp [xI_seq, xI_region, xI_ret, regA, regOps, runOps, opStep, wantedA, opA, evo, evos, calleeA, lk, nif_eq, putE, paramsE, valS, val2, keepE, restrict, finA, resA, binA, binInt, ofConst, ofConst1, loadA, TK.isAgg, asVar, unA, builtinA, lenOpA, lenA, ileb_cast, ileb_eq, ieqb_dec, indexAddrA, inB_dec, evPairs, storeA, AV.cellsOf, pairsOf, xI_nil, binBool, gcE, evOpt, xI_block, xI_loopH, xI_condM, xI_exitM, xI_skip, xI_blk, exitA, ty2, ty4, ty41, fieldAddrA, allOne, AV.one, n_push, ty2, ty33, ty38, ty41, hσ, h, c1, hcw, cL]
      | some rows =>
        obtain ⟨g1', g2', _⟩ := hcan.2 rows ha
        rw [g1', g2'] at cL
        simp only [if_true] at cL
        simp only [stV]
        rw [fi71]
        simp [xI_seq, xI_region, xI_ret, regA, regOps, runOps, opStep, wantedA, opA, evo, evos, calleeA, lk, nif_eq, putE, paramsE, valS, val2, keepE, restrict, finA, resA, binA, binInt, ofConst, ofConst1, loadA, TK.isAgg, asVar, unA, builtinA, lenOpA, lenA, ileb_cast, ileb_eq, ieqb_dec, indexAddrA, inB_dec, evPairs, storeA, AV.cellsOf, pairsOf, xI_nil, binBool, gcE, evOpt, xI_block, xI_loopH, xI_condM, xI_exitM, xI_skip, xI_blk, exitA, ty2, ty4, ty41, fieldAddrA, allOne, AV.one, n_push, ty2, ty33, ty38, ty41, hσ, h, c1, hcw, cL]

end Go.Proofs.Ytonnbgjbohbibaa
