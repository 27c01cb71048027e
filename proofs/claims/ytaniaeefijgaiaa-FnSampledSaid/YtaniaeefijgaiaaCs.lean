/- Contracts: ranks of sets. Nothing is claimed here; no condition. -/
import Derived.Test.YtaniaeefijgaiaaCr
namespace Go.Proofs.Ytaniaeefijgaiaa
open Go Go.Abs
set_option linter.unusedSimpArgs false
set_option linter.unusedVariables false
def rsum (N kk : Nat) : Nat → Nat → Int → Int
  | 0, _, acc => acc
  | m + 1, x, acc => rsum N kk m (x + 1) (wrapA .i64 (acc + (ch (N - 1 - x) kk : Nat)))
/-- How many sets come before one. -/
def rankS (N : Nat) : List Int → Nat → Int → Int
  | [], _, acc => acc
  | c :: r, frm, acc => rankS N r (c.toNat + 1) (rsum N r.length (c.toNat - frm) frm acc)
theorem incr_tail {a : Int} {l : List Int} (h : incr (a :: l) = true) : incr l = true := by
  cases l with
  | nil => rfl
  | cons b r => simp only [incr, Bool.and_eq_true] at h; exact h.2
theorem incr_bound : ∀ (l : List Int) (a hi : Int), incr (a :: l) = true → (∀ c ∈ a :: l, c ≤ hi) → a + l.length ≤ hi
  | [], a, hi, _, h => by have := h a (by simp); simpa using this
  | b :: r, a, hi, h, hh => by
    have h1 := incr_bound r b hi (incr_tail h) (fun c hc => hh c (by simp at hc ⊢; exact .inr hc))
    simp only [incr, Bool.and_eq_true, decide_eq_true_eq] at h
    simp only [List.length_cons]; omega
def rankR (N : Int) (l : List Int) : AV := match inR N 1 60 && (allR l 0 (N - 1) && incr l) with
  | true => .tup [.int .i64 (rankS N.toNat l 0 0), .bool true]
  | false => .tup [.int .i64 0, .bool false]

noncomputable def b39 : Code := Try.f39.body.getD .skip
noncomputable def B39_0 : Code := (bodyC (bodyC (sndC (fstC (sndC (sndC (sndC b39)))))))
noncomputable def K39_0 : List It := .lp B39_0 :: .blk 0 :: .code (sndC (sndC (sndC (sndC b39)))) :: []
theorem xl39_0 {fi : FI} {env : Env} {σ : St} : exI TT fi K39_0 env σ = exI TT fi (.code B39_0 :: K39_0) env σ := by unfold K39_0; exact xI_lp
noncomputable def R39_0_0 : List It := .code (sndC (sndC (sndC (sndC b39)))) :: []
theorem eK39_0_0 : exitA 0 K39_0 = some R39_0_0 := rfl
noncomputable def B39_1 : Code := (bodyC (bodyC (fstC (sndC (bodyC (fstC (sndC (sndC (bodyC (bodyC (sndC (fstC (sndC (sndC (sndC b39)))))))))))))))
noncomputable def K39_1 : List It := .lp B39_1 :: .blk 2 :: .code (sndC (sndC (bodyC (fstC (sndC (sndC (bodyC (bodyC (sndC (fstC (sndC (sndC (sndC b39))))))))))))) :: .blk 1 :: .code (sndC (sndC (sndC (bodyC (bodyC (sndC (fstC (sndC (sndC (sndC b39)))))))))) :: K39_0
theorem xl39_1 {fi : FI} {env : Env} {σ : St} : exI TT fi K39_1 env σ = exI TT fi (.code B39_1 :: K39_1) env σ := by unfold K39_1; exact xI_lp
noncomputable def R39_1_2 : List It := .code (sndC (sndC (bodyC (fstC (sndC (sndC (bodyC (bodyC (sndC (fstC (sndC (sndC (sndC b39))))))))))))) :: .blk 1 :: .code (sndC (sndC (sndC (bodyC (bodyC (sndC (fstC (sndC (sndC (sndC b39)))))))))) :: K39_0
theorem eK39_1_2 : exitA 2 K39_1 = some R39_1_2 := rfl
noncomputable def R39_1_1 : List It := .code (sndC (sndC (sndC (bodyC (bodyC (sndC (fstC (sndC (sndC (sndC b39)))))))))) :: K39_0
theorem eK39_1_1 : exitA 1 K39_1 = some R39_1_1 := rfl
theorem eK39_1_0 : exitA 0 K39_1 = some R39_0_0 := rfl
theorem l39_1 (l : List Int) (len N i x kk : Nat) (hN : N ≤ 60) (hxN : x < N) (hlen : len = i + kk + 1) (hll : len ≤ 1100000) (hkx : x + kk ≤ N - 1) (σ : St) : ∀ (m nx : Nat) (acc : Int), nx + m = x →
    exI TT (FI.of Try.f39 (TT.an 39)) K39_1 [(0, .int .i64 N), (1, .lst len (ints l)), (6, .int .i64 acc), (7, .int .i64 nx), (8, .int .i64 i), (9, .int .i64 x), (25, .lst len (ints l)), (26, .int .i64 len), (27, .int .i64 i)] σ = exI TT (FI.of Try.f39 (TT.an 39)) R39_1_2 [(0, .int .i64 N), (1, .lst len (ints l)), (6, .int .i64 (rsum N kk m nx acc)), (7, .int .i64 x), (8, .int .i64 i), (9, .int .i64 x), (25, .lst len (ints l)), (26, .int .i64 len), (27, .int .i64 i), (34, .bool false)] σ := by
  have hil : i < len := by omega
  have hil2 : ¬ len ≤ i := by omega
  intro m
  induction m with
  | zero =>
    intro nx acc hm
    obtain rfl : nx = x := by omega
    rw [fi39]
    rw [xl39_1]
    simp only [B39_1, b39, Try.f39, Option.getD, fstC, sndC, bodyC, thnC, elsC]
    simp [xI_seq, xI_region, xI_ret, regA, regOps, runOps, opStep, wantedA, opA, evo, evos, calleeA, lk, nif_eq, putE, paramsE, valS, val2, keepE, restrict, finA, resA, binA, binInt, ofConst, ofConst1, loadA, TK.isAgg, asVar, unA, builtinA, lenOpA, lenA, ileb_cast, ileb_eq, ieqb_dec, indexAddrA, inB_dec, evPairs, storeA, AV.cellsOf, pairsOf, xI_nil, binBool, gcE, evOpt, xI_block, xI_loopH, xI_condM, xI_exitM, xI_skip, xI_blk, exitA, ty2, ty3, ty4, ty22, eK39_0_0, eK39_1_2, eK39_1_1, eK39_1_0, rsum]
  | succ m ih =>
    intro nx acc hm
    have h1 := ih (nx + 1) (wrapA .i64 (acc + (ch (N - 1 - nx) kk : Nat))) (by omega)
    have hlt : ¬ x ≤ nx := by omega
    have hcc : ∀ σ, callI TT 84 [.int .i64 (N - 1 - nx : Nat), .int .i64 kk] σ = some (.int .i64 (ch (N - 1 - nx) kk), σ) := fun σ => c84 (N - 1 - nx) kk (by omega) (by omega) σ
    have hw : wrapA .i64 ((nx : Int) + 1) = (nx : Int) + 1 := wrapS (by omega)
    have hnx : ((nx + 1 : Nat) : Int) = (nx : Int) + 1 := by omega
    have w1 : wrapA .i64 ((N : Int) - nx) = (N : Int) - nx := wrapA_id (by omega) (by omega)
    have w2 : wrapA .i64 ((N : Int) - nx - 1) = ((N - 1 - nx : Nat) : Int) := by rw [wrapA_id (by omega) (by omega)]; omega
    have w3 : wrapA .i64 ((len : Int) - i) = (kk : Int) + 1 := by rw [wrapA_id (by omega) (by omega)]; omega
    have w4 : wrapA .i64 ((kk : Int) + 1 - 1) = kk := by rw [wrapA_id (by omega) (by omega)]; omega
    have w4' : wrapA .i64 (kk : Int) = kk := wrapA_id (by omega) (by omega)
    rw [show rsum N kk (m + 1) nx acc = rsum N kk m (nx + 1) (wrapA .i64 (acc + (ch (N - 1 - nx) kk : Nat))) from rfl]
    generalize N - 1 - nx = d at *
    generalize ch d kk = z at *
    rw [hnx] at h1
    rw [fi39] at h1 ⊢
    rw [xl39_1]
    simp only [B39_1, b39, Try.f39, Option.getD, fstC, sndC, bodyC, thnC, elsC]
    simp [xI_seq, xI_region, xI_ret, regA, regOps, runOps, opStep, wantedA, opA, evo, evos, calleeA, lk, nif_eq, putE, paramsE, valS, val2, keepE, restrict, finA, resA, binA, binInt, ofConst, ofConst1, loadA, TK.isAgg, asVar, unA, builtinA, lenOpA, lenA, ileb_cast, ileb_eq, ieqb_dec, indexAddrA, inB_dec, evPairs, storeA, AV.cellsOf, pairsOf, xI_nil, binBool, gcE, evOpt, xI_block, xI_loopH, xI_condM, xI_exitM, xI_skip, xI_blk, exitA, ty2, ty3, ty4, ty22, eK39_0_0, eK39_1_2, eK39_1_1, eK39_1_0, hlt, hcc, hw, w1, w2, w3, w4, w4']
    exact h1
theorem l39_0 (l : List Int) (len N : Nat) (hN : N ≤ 60) (hlen : len = l.length) (hln : len ≤ 1100000) (σ : St) : ∀ (suf pre : List Int) (nx : Nat) (acc : Int), l = pre ++ suf → incr suf = true → (∀ c ∈ suf, 0 ≤ c ∧ c ≤ (N : Int) - 1) → (∀ c r, suf = c :: r → (nx : Int) ≤ c) →
    exI TT (FI.of Try.f39 (TT.an 39)) K39_0 [(0, .int .i64 N), (1, .lst len (ints l)), (6, .int .i64 acc), (7, .int .i64 nx), (25, .lst len (ints l)), (26, .int .i64 len), (27, .int .i64 pre.length)] σ = some (.tup [.int .i64 (rankS N suf nx acc), .bool true], σ) := by
  intro suf
  induction suf with
  | nil =>
    intro pre nx acc hl hi ha hx
    have hll : len = pre.length := by rw [hlen, hl]; simp
    subst hll
    rw [fi39]
    rw [xl39_0]
    simp only [B39_0, b39, Try.f39, Option.getD, fstC, sndC, bodyC, thnC, elsC]
    simp [xI_seq, xI_region, xI_ret, regA, regOps, runOps, opStep, wantedA, opA, evo, evos, calleeA, lk, nif_eq, putE, paramsE, valS, val2, keepE, restrict, finA, resA, binA, binInt, ofConst, ofConst1, loadA, TK.isAgg, asVar, unA, builtinA, lenOpA, lenA, ileb_cast, ileb_eq, ieqb_dec, indexAddrA, inB_dec, evPairs, storeA, AV.cellsOf, pairsOf, xI_nil, binBool, gcE, evOpt, xI_block, xI_loopH, xI_condM, xI_exitM, xI_skip, xI_blk, exitA, ty2, ty3, ty4, ty22, eK39_0_0, eK39_1_2, eK39_1_1, eK39_1_0]
    simp only [R39_0_0, b39, Try.f39, Option.getD, fstC, sndC, bodyC, thnC, elsC]
    simp [xI_seq, xI_region, xI_ret, regA, regOps, runOps, opStep, wantedA, opA, evo, evos, calleeA, lk, nif_eq, putE, paramsE, valS, val2, keepE, restrict, finA, resA, binA, binInt, ofConst, ofConst1, loadA, TK.isAgg, asVar, unA, builtinA, lenOpA, lenA, ileb_cast, ileb_eq, ieqb_dec, indexAddrA, inB_dec, evPairs, storeA, AV.cellsOf, pairsOf, xI_nil, binBool, gcE, evOpt, xI_block, xI_loopH, xI_condM, xI_exitM, xI_skip, xI_blk, exitA, ty2, ty3, ty4, ty22, eK39_0_0, eK39_1_2, eK39_1_1, eK39_1_0, rankS]
  | cons c suf ih =>
    intro pre nx acc hl hi ha hx
    have hll : len = pre.length + (suf.length + 1) := by rw [hlen, hl]; simp
    have hg : l[pre.length]? = some c := by simp [hl]
    have hc := ha c (by simp)
    have hb := incr_bound suf c ((N : Int) - 1) hi (fun d hd => (ha d hd).2)
    have hnc := hx c suf rfl
    obtain ⟨x, rfl⟩ : ∃ x : Nat, c = x := ⟨c.toNat, by omega⟩
    obtain ⟨i, hii⟩ : ∃ i, i = pre.length := ⟨_, rfl⟩
    have h1 := ih (pre ++ [(x : Int)]) (x + 1) (rsum N suf.length (x - nx) nx acc) (by simp [hl]) (incr_tail hi) (fun d hd => ha d (by simp [hd])) (fun d r e => by
      subst e; simp only [incr, Bool.and_eq_true, decide_eq_true_eq] at hi; omega)
    have h2 := l39_1 l len N i x suf.length hN (by omega) (by omega) (by omega) (by omega) σ (x - nx) nx acc (by omega)
    rw [show rankS N ((x : Int) :: suf) nx acc = rankS N suf (x + 1) (rsum N suf.length (x - nx) nx acc) from rfl]
    generalize rsum N suf.length (x - nx) nx acc = ac at *
    simp only [List.length_append, List.length_singleton] at h1
    rw [← hii] at h1 hg hll ⊢
    have hlt : ¬ len ≤ i := by omega
    have hlt2 : i < len := by omega
    have hw : wrapA .i64 ((x : Int) + 1) = (x : Int) + 1 := wrapS (by omega)
    have hw2 : wrapA .i64 ((i : Int) + 1) = (i : Int) + 1 := wrapS (by omega)
    rw [show ((x + 1 : Nat) : Int) = (x : Int) + 1 by omega, show ((i + 1 : Nat) : Int) = (i : Int) + 1 by omega] at h1
    have h3 : exI TT (FI.of Try.f39 (TT.an 39)) R39_1_2 [(0, .int .i64 N), (1, .lst len (ints l)), (6, .int .i64 ac), (7, .int .i64 x), (8, .int .i64 i), (9, .int .i64 x), (25, .lst len (ints l)), (26, .int .i64 len), (27, .int .i64 i), (34, .bool false)] σ = some (.tup [.int .i64 (rankS N suf (x + 1) ac), .bool true], σ) := by
      rw [fi39] at h1 ⊢
      simp only [R39_1_2, b39, Try.f39, Option.getD, fstC, sndC, bodyC, thnC, elsC]
      simp [xI_seq, xI_region, xI_ret, regA, regOps, runOps, opStep, wantedA, opA, evo, evos, calleeA, lk, nif_eq, putE, paramsE, valS, val2, keepE, restrict, finA, resA, binA, binInt, ofConst, ofConst1, loadA, TK.isAgg, asVar, unA, builtinA, lenOpA, lenA, ileb_cast, ileb_eq, ieqb_dec, indexAddrA, inB_dec, evPairs, storeA, AV.cellsOf, pairsOf, xI_nil, binBool, gcE, evOpt, xI_block, xI_loopH, xI_condM, xI_exitM, xI_skip, xI_blk, exitA, ty2, ty3, ty4, ty22, eK39_0_0, eK39_1_2, eK39_1_1, eK39_1_0, hw, hw2, hlt2, lst_read hg]
      exact h1
    rw [h3] at h2
    rw [fi39] at h2 ⊢
    rw [xl39_0]
    simp only [B39_0, b39, Try.f39, Option.getD, fstC, sndC, bodyC, thnC, elsC]
    simp [xI_seq, xI_region, xI_ret, regA, regOps, runOps, opStep, wantedA, opA, evo, evos, calleeA, lk, nif_eq, putE, paramsE, valS, val2, keepE, restrict, finA, resA, binA, binInt, ofConst, ofConst1, loadA, TK.isAgg, asVar, unA, builtinA, lenOpA, lenA, ileb_cast, ileb_eq, ieqb_dec, indexAddrA, inB_dec, evPairs, storeA, AV.cellsOf, pairsOf, xI_nil, binBool, gcE, evOpt, xI_block, xI_loopH, xI_condM, xI_exitM, xI_skip, xI_blk, exitA, ty2, ty3, ty4, ty22, eK39_0_0, eK39_1_2, eK39_1_1, eK39_1_0, hlt, hlt2, lst_read hg]
    exact h2

theorem v39 (N : Int) (l : List Int) (hs : l.length ≤ 1100000) : FnV TT 39 [.int .i64 N, .lst l.length (ints l)] (rankR N l) := by
  have hA : ∀ σ, callI TT 78 [.lst l.length (ints l), .int .i64 0, .int .i64 (N - 1)] σ = some (.bool (allR l 0 (N - 1)), σ) := fun σ => v78 l l.length rfl (by omega) 0 _ σ _ rfl
  have hI : ∀ σ, callI TT 86 [.lst l.length (ints l)] σ = some (.bool (incr l), σ) := fun σ => v86 l l.length rfl (by omega) σ _ rfl
  cases h1 : inR N 1 60 with
  | false =>
    have hr : rankR N l = .tup [.int .i64 0, .bool false] := by simp [rankR, h1]
    rw [hr]
    refine FnV.mk fn39 rfl md39 ⟨⟨[], 0⟩, ?_⟩ (fun _ => rfl) rfl
    rw [fi39]
    simp [xI_seq, xI_region, xI_ret, regA, regOps, runOps, opStep, wantedA, opA, evo, evos, calleeA, lk, nif_eq, putE, paramsE, valS, val2, keepE, restrict, finA, resA, binA, binInt, ofConst, ofConst1, loadA, TK.isAgg, asVar, unA, builtinA, lenOpA, lenA, ileb_cast, ileb_eq, ieqb_dec, indexAddrA, inB_dec, evPairs, storeA, AV.cellsOf, pairsOf, xI_nil, binBool, gcE, evOpt, xI_block, xI_loopH, xI_condM, xI_exitM, xI_skip, xI_blk, exitA, ty2, ty3, ty4, ty22, eK39_0_0, eK39_1_2, eK39_1_1, eK39_1_0, hA, hI, c69, h1]
  | true =>
    have k1 := inR_iff.1 h1
    have hw : wrapA .i64 (N - 1) = N - 1 := wrapA_id (by omega) (by omega)
    cases h2 : allR l 0 (N - 1) with
    | false =>
      have hr : rankR N l = .tup [.int .i64 0, .bool false] := by simp [rankR, h2]
      rw [hr]
      refine FnV.mk fn39 rfl md39 ⟨⟨[], 0⟩, ?_⟩ (fun _ => rfl) rfl
      rw [fi39]
      simp [xI_seq, xI_region, xI_ret, regA, regOps, runOps, opStep, wantedA, opA, evo, evos, calleeA, lk, nif_eq, putE, paramsE, valS, val2, keepE, restrict, finA, resA, binA, binInt, ofConst, ofConst1, loadA, TK.isAgg, asVar, unA, builtinA, lenOpA, lenA, ileb_cast, ileb_eq, ieqb_dec, indexAddrA, inB_dec, evPairs, storeA, AV.cellsOf, pairsOf, xI_nil, binBool, gcE, evOpt, xI_block, xI_loopH, xI_condM, xI_exitM, xI_skip, xI_blk, exitA, ty2, ty3, ty4, ty22, eK39_0_0, eK39_1_2, eK39_1_1, eK39_1_0, hA, hI, c69, h1, h2, hw]
    | true =>
      cases h3 : incr l with
      | false =>
        have hr : rankR N l = .tup [.int .i64 0, .bool false] := by simp [rankR, h3]
        rw [hr]
        refine FnV.mk fn39 rfl md39 ⟨⟨[], 0⟩, ?_⟩ (fun _ => rfl) rfl
        rw [fi39]
        simp [xI_seq, xI_region, xI_ret, regA, regOps, runOps, opStep, wantedA, opA, evo, evos, calleeA, lk, nif_eq, putE, paramsE, valS, val2, keepE, restrict, finA, resA, binA, binInt, ofConst, ofConst1, loadA, TK.isAgg, asVar, unA, builtinA, lenOpA, lenA, ileb_cast, ileb_eq, ieqb_dec, indexAddrA, inB_dec, evPairs, storeA, AV.cellsOf, pairsOf, xI_nil, binBool, gcE, evOpt, xI_block, xI_loopH, xI_condM, xI_exitM, xI_skip, xI_blk, exitA, ty2, ty3, ty4, ty22, eK39_0_0, eK39_1_2, eK39_1_1, eK39_1_0, hA, hI, c69, h1, h2, h3, hw]
      | true =>
        obtain ⟨n, rfl⟩ : ∃ n : Nat, N = n := ⟨N.toNat, by omega⟩
        have hr : rankR n l = .tup [.int .i64 (rankS n l 0 0), .bool true] := by simp [rankR, h1, h2, h3]
        rw [hr]
        have h4 := l39_0 l l.length n (by omega) rfl (by omega) ⟨[], 0⟩ l [] 0 0 rfl h3 (allR_spec h2) (fun c r e => by subst e; have := allR_spec h2 c (by simp); omega)
        refine FnV.mk fn39 rfl md39 ⟨⟨[], 0⟩, ?_⟩ (fun _ => rfl) rfl
        generalize rankS n l 0 0 = z at *
        rw [fi39] at h4 ⊢
        simp [xI_seq, xI_region, xI_ret, regA, regOps, runOps, opStep, wantedA, opA, evo, evos, calleeA, lk, nif_eq, putE, paramsE, valS, val2, keepE, restrict, finA, resA, binA, binInt, ofConst, ofConst1, loadA, TK.isAgg, asVar, unA, builtinA, lenOpA, lenA, ileb_cast, ileb_eq, ieqb_dec, indexAddrA, inB_dec, evPairs, storeA, AV.cellsOf, pairsOf, xI_nil, binBool, gcE, evOpt, xI_block, xI_loopH, xI_condM, xI_exitM, xI_skip, xI_blk, exitA, ty2, ty3, ty4, ty22, eK39_0_0, eK39_1_2, eK39_1_1, eK39_1_0, hA, hI, c69, h1, h2, h3, hw]
        exact h4

noncomputable def b38 : Code := Try.f38.body.getD .skip
noncomputable def B38_0 : Code := (bodyC (bodyC (sndC (fstC (sndC (sndC (sndC (sndC (sndC b38)))))))))
noncomputable def K38_0 : List It := .lp B38_0 :: .blk 0 :: .code (sndC (sndC (sndC (sndC (sndC (sndC b38)))))) :: []
theorem xl38_0 {fi : FI} {env : Env} {σ : St} : exI TT fi K38_0 env σ = exI TT fi (.code B38_0 :: K38_0) env σ := by unfold K38_0; exact xI_lp
noncomputable def R38_0_0 : List It := .code (sndC (sndC (sndC (sndC (sndC (sndC b38)))))) :: []
theorem eK38_0_0 : exitA 0 K38_0 = some R38_0_0 := rfl
noncomputable def B38_1 : Code := (bodyC (bodyC (sndC (fstC (bodyC (fstC (sndC (bodyC (bodyC (sndC (fstC (sndC (sndC (sndC (sndC (sndC b38))))))))))))))))
noncomputable def K38_1 : List It := .lp B38_1 :: .blk 2 :: .code (sndC (bodyC (fstC (sndC (bodyC (bodyC (sndC (fstC (sndC (sndC (sndC (sndC (sndC b38))))))))))))) :: .blk 1 :: .code (sndC (sndC (bodyC (bodyC (sndC (fstC (sndC (sndC (sndC (sndC (sndC b38))))))))))) :: K38_0
theorem xl38_1 {fi : FI} {env : Env} {σ : St} : exI TT fi K38_1 env σ = exI TT fi (.code B38_1 :: K38_1) env σ := by unfold K38_1; exact xI_lp
noncomputable def R38_1_2 : List It := .code (sndC (bodyC (fstC (sndC (bodyC (bodyC (sndC (fstC (sndC (sndC (sndC (sndC (sndC b38))))))))))))) :: .blk 1 :: .code (sndC (sndC (bodyC (bodyC (sndC (fstC (sndC (sndC (sndC (sndC (sndC b38))))))))))) :: K38_0
theorem eK38_1_2 : exitA 2 K38_1 = some R38_1_2 := rfl
noncomputable def R38_1_1 : List It := .code (sndC (sndC (bodyC (bodyC (sndC (fstC (sndC (sndC (sndC (sndC (sndC b38))))))))))) :: K38_0
theorem eK38_1_1 : exitA 1 K38_1 = some R38_1_1 := rfl
theorem eK38_1_0 : exitA 0 K38_1 = some R38_0_0 := rfl
theorem l38_1 (l : List Int) (len N i x kk : Nat) (hN : N ≤ 60) (hxN : x < N) (hlen : len = i + kk + 1) (hll : len ≤ 1100000) (hkx : x + kk ≤ N - 1) (hx : l[i]? = some (x : Int)) (σ : St) : ∀ (m nx : Nat) (acc : Int), nx + m = x →
    exI TT (FI.of Try.f38 (TT.an 38)) K38_1 [(0, .int .i64 N), (1, .lst len (ints l)), (6, .int .i64 len), (7, .int .i64 acc), (9, .int .i64 i), (10, .int .i64 nx)] σ = exI TT (FI.of Try.f38 (TT.an 38)) R38_1_2 [(0, .int .i64 N), (1, .lst len (ints l)), (6, .int .i64 len), (7, .int .i64 (rsum N kk m nx acc)), (9, .int .i64 i), (10, .int .i64 x), (34, .bool false)] σ := by
  have hil : i < len := by omega
  have hil2 : ¬ len ≤ i := by omega
  intro m
  induction m with
  | zero =>
    intro nx acc hm
    obtain rfl : nx = x := by omega
    rw [fi38]
    rw [xl38_1]
    simp only [B38_1, b38, Try.f38, Option.getD, fstC, sndC, bodyC, thnC, elsC]
    simp [xI_seq, xI_region, xI_ret, regA, regOps, runOps, opStep, wantedA, opA, evo, evos, calleeA, lk, nif_eq, putE, paramsE, valS, val2, keepE, restrict, finA, resA, binA, binInt, ofConst, ofConst1, loadA, TK.isAgg, asVar, unA, builtinA, lenOpA, lenA, ileb_cast, ileb_eq, ieqb_dec, indexAddrA, inB_dec, evPairs, storeA, AV.cellsOf, pairsOf, xI_nil, binBool, gcE, evOpt, xI_block, xI_loopH, xI_condM, xI_exitM, xI_skip, xI_blk, exitA, ty2, ty4, ty22, eK38_0_0, eK38_1_2, eK38_1_1, eK38_1_0, rsum, lst_read hx, hil, hil2]
  | succ m ih =>
    intro nx acc hm
    have h1 := ih (nx + 1) (wrapA .i64 (acc + (ch (N - 1 - nx) kk : Nat))) (by omega)
    have hlt : ¬ x ≤ nx := by omega
    have hcc : ∀ σ, callI TT 83 [.int .i64 (N - 1 - nx : Nat), .int .i64 kk] σ = some (.int .i64 (ch (N - 1 - nx) kk), σ) := fun σ => c83 (N - 1 - nx) kk (by omega) (by omega) σ
    have hw : wrapA .i64 ((nx : Int) + 1) = (nx : Int) + 1 := wrapS (by omega)
    have hnx : ((nx + 1 : Nat) : Int) = (nx : Int) + 1 := by omega
    have w1 : wrapA .i64 ((N : Int) - 1) = (N : Int) - 1 := wrapA_id (by omega) (by omega)
    have w2 : wrapA .i64 ((N : Int) - 1 - nx) = ((N - 1 - nx : Nat) : Int) := by rw [wrapA_id (by omega) (by omega)]; omega
    have w3 : wrapA .i64 ((len : Int) - 1) = (len : Int) - 1 := by rw [wrapA_id (by omega) (by omega)]
    have w4 : wrapA .i64 ((len : Int) - 1 - i) = kk := by rw [wrapA_id (by omega) (by omega)]; omega
    rw [show rsum N kk (m + 1) nx acc = rsum N kk m (nx + 1) (wrapA .i64 (acc + (ch (N - 1 - nx) kk : Nat))) from rfl]
    generalize N - 1 - nx = d at *
    generalize ch d kk = z at *
    rw [hnx] at h1
    rw [fi38] at h1 ⊢
    rw [xl38_1]
    simp only [B38_1, b38, Try.f38, Option.getD, fstC, sndC, bodyC, thnC, elsC]
    simp [xI_seq, xI_region, xI_ret, regA, regOps, runOps, opStep, wantedA, opA, evo, evos, calleeA, lk, nif_eq, putE, paramsE, valS, val2, keepE, restrict, finA, resA, binA, binInt, ofConst, ofConst1, loadA, TK.isAgg, asVar, unA, builtinA, lenOpA, lenA, ileb_cast, ileb_eq, ieqb_dec, indexAddrA, inB_dec, evPairs, storeA, AV.cellsOf, pairsOf, xI_nil, binBool, gcE, evOpt, xI_block, xI_loopH, xI_condM, xI_exitM, xI_skip, xI_blk, exitA, ty2, ty4, ty22, eK38_0_0, eK38_1_2, eK38_1_1, eK38_1_0, hlt, hcc, hw, w1, w2, w3, w4, lst_read hx, hil, hil2]
    exact h1
theorem l38_0 (l : List Int) (len N : Nat) (hN : N ≤ 60) (hlen : len = l.length) (hln : len ≤ 1100000) (σ : St) : ∀ (suf pre : List Int) (nx : Nat) (acc : Int), l = pre ++ suf → incr suf = true → (∀ c ∈ suf, 0 ≤ c ∧ c ≤ (N : Int) - 1) → (∀ c r, suf = c :: r → (nx : Int) ≤ c) →
    exI TT (FI.of Try.f38 (TT.an 38)) K38_0 [(0, .int .i64 N), (1, .lst len (ints l)), (6, .int .i64 len), (7, .int .i64 acc), (8, .int .i64 nx), (9, .int .i64 pre.length)] σ = some (.tup [.int .i64 (rankS N suf nx acc), .bool true], σ) := by
  intro suf
  induction suf with
  | nil =>
    intro pre nx acc hl hi ha hx
    have hll : len = pre.length := by rw [hlen, hl]; simp
    subst hll
    rw [fi38]
    rw [xl38_0]
    simp only [B38_0, b38, Try.f38, Option.getD, fstC, sndC, bodyC, thnC, elsC]
    simp [xI_seq, xI_region, xI_ret, regA, regOps, runOps, opStep, wantedA, opA, evo, evos, calleeA, lk, nif_eq, putE, paramsE, valS, val2, keepE, restrict, finA, resA, binA, binInt, ofConst, ofConst1, loadA, TK.isAgg, asVar, unA, builtinA, lenOpA, lenA, ileb_cast, ileb_eq, ieqb_dec, indexAddrA, inB_dec, evPairs, storeA, AV.cellsOf, pairsOf, xI_nil, binBool, gcE, evOpt, xI_block, xI_loopH, xI_condM, xI_exitM, xI_skip, xI_blk, exitA, ty2, ty4, ty22, eK38_0_0, eK38_1_2, eK38_1_1, eK38_1_0]
    simp only [R38_0_0, b38, Try.f38, Option.getD, fstC, sndC, bodyC, thnC, elsC]
    simp [xI_seq, xI_region, xI_ret, regA, regOps, runOps, opStep, wantedA, opA, evo, evos, calleeA, lk, nif_eq, putE, paramsE, valS, val2, keepE, restrict, finA, resA, binA, binInt, ofConst, ofConst1, loadA, TK.isAgg, asVar, unA, builtinA, lenOpA, lenA, ileb_cast, ileb_eq, ieqb_dec, indexAddrA, inB_dec, evPairs, storeA, AV.cellsOf, pairsOf, xI_nil, binBool, gcE, evOpt, xI_block, xI_loopH, xI_condM, xI_exitM, xI_skip, xI_blk, exitA, ty2, ty4, ty22, eK38_0_0, eK38_1_2, eK38_1_1, eK38_1_0, rankS]
  | cons c suf ih =>
    intro pre nx acc hl hi ha hx
    have hll : len = pre.length + (suf.length + 1) := by rw [hlen, hl]; simp
    have hg : l[pre.length]? = some c := by simp [hl]
    have hc := ha c (by simp)
    have hb := incr_bound suf c ((N : Int) - 1) hi (fun d hd => (ha d hd).2)
    have hnc := hx c suf rfl
    obtain ⟨x, rfl⟩ : ∃ x : Nat, c = x := ⟨c.toNat, by omega⟩
    obtain ⟨i, hii⟩ : ∃ i, i = pre.length := ⟨_, rfl⟩
    have h1 := ih (pre ++ [(x : Int)]) (x + 1) (rsum N suf.length (x - nx) nx acc) (by simp [hl]) (incr_tail hi) (fun d hd => ha d (by simp [hd])) (fun d r e => by
      subst e; simp only [incr, Bool.and_eq_true, decide_eq_true_eq] at hi; omega)
    have h2 := l38_1 l len N i x suf.length hN (by omega) (by omega) (by omega) (by omega) (by rw [hii]; exact hg) σ (x - nx) nx acc (by omega)
    rw [show rankS N ((x : Int) :: suf) nx acc = rankS N suf (x + 1) (rsum N suf.length (x - nx) nx acc) from rfl]
    generalize rsum N suf.length (x - nx) nx acc = ac at *
    simp only [List.length_append, List.length_singleton] at h1
    rw [← hii] at h1 hg hll ⊢
    have hlt : ¬ len ≤ i := by omega
    have hlt2 : i < len := by omega
    have hw : wrapA .i64 ((x : Int) + 1) = (x : Int) + 1 := wrapS (by omega)
    have hw2 : wrapA .i64 ((i : Int) + 1) = (i : Int) + 1 := wrapS (by omega)
    rw [show ((x + 1 : Nat) : Int) = (x : Int) + 1 by omega, show ((i + 1 : Nat) : Int) = (i : Int) + 1 by omega] at h1
    have h3 : exI TT (FI.of Try.f38 (TT.an 38)) R38_1_2 [(0, .int .i64 N), (1, .lst len (ints l)), (6, .int .i64 len), (7, .int .i64 ac), (9, .int .i64 i), (10, .int .i64 x), (34, .bool false)] σ = some (.tup [.int .i64 (rankS N suf (x + 1) ac), .bool true], σ) := by
      rw [fi38] at h1 ⊢
      simp only [R38_1_2, b38, Try.f38, Option.getD, fstC, sndC, bodyC, thnC, elsC]
      simp [xI_seq, xI_region, xI_ret, regA, regOps, runOps, opStep, wantedA, opA, evo, evos, calleeA, lk, nif_eq, putE, paramsE, valS, val2, keepE, restrict, finA, resA, binA, binInt, ofConst, ofConst1, loadA, TK.isAgg, asVar, unA, builtinA, lenOpA, lenA, ileb_cast, ileb_eq, ieqb_dec, indexAddrA, inB_dec, evPairs, storeA, AV.cellsOf, pairsOf, xI_nil, binBool, gcE, evOpt, xI_block, xI_loopH, xI_condM, xI_exitM, xI_skip, xI_blk, exitA, ty2, ty4, ty22, eK38_0_0, eK38_1_2, eK38_1_1, eK38_1_0, hw, hw2, hlt2, lst_read hg]
      exact h1
    rw [h3] at h2
    rw [fi38] at h2 ⊢
    rw [xl38_0]
    simp only [B38_0, b38, Try.f38, Option.getD, fstC, sndC, bodyC, thnC, elsC]
    simp [xI_seq, xI_region, xI_ret, regA, regOps, runOps, opStep, wantedA, opA, evo, evos, calleeA, lk, nif_eq, putE, paramsE, valS, val2, keepE, restrict, finA, resA, binA, binInt, ofConst, ofConst1, loadA, TK.isAgg, asVar, unA, builtinA, lenOpA, lenA, ileb_cast, ileb_eq, ieqb_dec, indexAddrA, inB_dec, evPairs, storeA, AV.cellsOf, pairsOf, xI_nil, binBool, gcE, evOpt, xI_block, xI_loopH, xI_condM, xI_exitM, xI_skip, xI_blk, exitA, ty2, ty4, ty22, eK38_0_0, eK38_1_2, eK38_1_1, eK38_1_0, hlt, hlt2, lst_read hg]
    exact h2

theorem v38 (N : Int) (l : List Int) (hs : l.length ≤ 1100000) : FnV TT 38 [.int .i64 N, .lst l.length (ints l)] (rankR N l) := by
  have hA : ∀ σ, callI TT 85 [.lst l.length (ints l), .int .i64 0, .int .i64 (N - 1)] σ = some (.bool (allR l 0 (N - 1) && incr l), σ) := fun σ => v85 l l.length rfl (by omega) 0 _ σ _ rfl
  cases h1 : inR N 1 60 with
  | false =>
    have hr : rankR N l = .tup [.int .i64 0, .bool false] := by simp [rankR, h1]
    rw [hr]
    refine FnV.mk fn38 rfl md38 ⟨⟨[], 0⟩, ?_⟩ (fun _ => rfl) rfl
    rw [fi38]
    simp [xI_seq, xI_region, xI_ret, regA, regOps, runOps, opStep, wantedA, opA, evo, evos, calleeA, lk, nif_eq, putE, paramsE, valS, val2, keepE, restrict, finA, resA, binA, binInt, ofConst, ofConst1, loadA, TK.isAgg, asVar, unA, builtinA, lenOpA, lenA, ileb_cast, ileb_eq, ieqb_dec, indexAddrA, inB_dec, evPairs, storeA, AV.cellsOf, pairsOf, xI_nil, binBool, gcE, evOpt, xI_block, xI_loopH, xI_condM, xI_exitM, xI_skip, xI_blk, exitA, ty2, ty4, ty22, eK38_0_0, eK38_1_2, eK38_1_1, eK38_1_0, hA, c82, h1]
  | true =>
    have k1 := inR_iff.1 h1
    have hw : wrapA .i64 (N - 1) = N - 1 := wrapA_id (by omega) (by omega)
    cases h2 : allR l 0 (N - 1) with
    | false =>
      have hr : rankR N l = .tup [.int .i64 0, .bool false] := by simp [rankR, h2]
      rw [hr]
      refine FnV.mk fn38 rfl md38 ⟨⟨[], 0⟩, ?_⟩ (fun _ => rfl) rfl
      rw [fi38]
      simp [xI_seq, xI_region, xI_ret, regA, regOps, runOps, opStep, wantedA, opA, evo, evos, calleeA, lk, nif_eq, putE, paramsE, valS, val2, keepE, restrict, finA, resA, binA, binInt, ofConst, ofConst1, loadA, TK.isAgg, asVar, unA, builtinA, lenOpA, lenA, ileb_cast, ileb_eq, ieqb_dec, indexAddrA, inB_dec, evPairs, storeA, AV.cellsOf, pairsOf, xI_nil, binBool, gcE, evOpt, xI_block, xI_loopH, xI_condM, xI_exitM, xI_skip, xI_blk, exitA, ty2, ty4, ty22, eK38_0_0, eK38_1_2, eK38_1_1, eK38_1_0, hA, c82, h1, h2, hw]
    | true =>
      cases h3 : incr l with
      | false =>
        have hr : rankR N l = .tup [.int .i64 0, .bool false] := by simp [rankR, h3]
        rw [hr]
        refine FnV.mk fn38 rfl md38 ⟨⟨[], 0⟩, ?_⟩ (fun _ => rfl) rfl
        rw [fi38]
        simp [xI_seq, xI_region, xI_ret, regA, regOps, runOps, opStep, wantedA, opA, evo, evos, calleeA, lk, nif_eq, putE, paramsE, valS, val2, keepE, restrict, finA, resA, binA, binInt, ofConst, ofConst1, loadA, TK.isAgg, asVar, unA, builtinA, lenOpA, lenA, ileb_cast, ileb_eq, ieqb_dec, indexAddrA, inB_dec, evPairs, storeA, AV.cellsOf, pairsOf, xI_nil, binBool, gcE, evOpt, xI_block, xI_loopH, xI_condM, xI_exitM, xI_skip, xI_blk, exitA, ty2, ty4, ty22, eK38_0_0, eK38_1_2, eK38_1_1, eK38_1_0, hA, c82, h1, h2, h3, hw]
      | true =>
        obtain ⟨n, rfl⟩ : ∃ n : Nat, N = n := ⟨N.toNat, by omega⟩
        have hr : rankR n l = .tup [.int .i64 (rankS n l 0 0), .bool true] := by simp [rankR, h1, h2, h3]
        rw [hr]
        have h4 := l38_0 l l.length n (by omega) rfl (by omega) ⟨[], 0⟩ l [] 0 0 rfl h3 (allR_spec h2) (fun c r e => by subst e; have := allR_spec h2 c (by simp); omega)
        refine FnV.mk fn38 rfl md38 ⟨⟨[], 0⟩, ?_⟩ (fun _ => rfl) rfl
        generalize rankS n l 0 0 = z at *
        rw [fi38] at h4 ⊢
        simp [xI_seq, xI_region, xI_ret, regA, regOps, runOps, opStep, wantedA, opA, evo, evos, calleeA, lk, nif_eq, putE, paramsE, valS, val2, keepE, restrict, finA, resA, binA, binInt, ofConst, ofConst1, loadA, TK.isAgg, asVar, unA, builtinA, lenOpA, lenA, ileb_cast, ileb_eq, ieqb_dec, indexAddrA, inB_dec, evPairs, storeA, AV.cellsOf, pairsOf, xI_nil, binBool, gcE, evOpt, xI_block, xI_loopH, xI_condM, xI_exitM, xI_skip, xI_blk, exitA, ty2, ty4, ty22, eK38_0_0, eK38_1_2, eK38_1_1, eK38_1_0, hA, c82, h1, h2, h3, hw]
        exact h4

end Go.Proofs.Ytaniaeefijgaiaa
