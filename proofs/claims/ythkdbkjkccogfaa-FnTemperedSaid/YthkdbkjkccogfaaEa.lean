/- Contracts of the laws' helpers. Nothing is claimed here; no condition. -/
import Derived.Test.YthkdbkjkccogfaaGa
namespace Go.Proofs.Ythkdbkjkccogfaa
open Go Go.Abs
set_option linter.unusedSimpArgs false
set_option linter.unusedVariables false
def inR (n lo hi : Int) : Bool := decide (lo ≤ n) && decide (n ≤ hi)
theorem bs1 (σ : St) (x : Int) : buildSliceA TT σ 58 1 [(0, .int .i64 x)] = some (.sl σ.n 0 1 1, σ.push ⟨[.int .i64 x], 1, false⟩) := build_one ty58 ty2
theorem bn0 (σ : St) : buildSliceA TT σ 58 0 [] = some (.sl σ.n 0 0 0, σ.push ⟨ints [], 1, false⟩) := build_nil ty58 ty2
theorem mkI (σ : St) (n : Nat) (hn : n ≤ 17592186044416) : makeSliceA TT σ 58 (.int .i64 n) (.int .i64 n) = some (.sl σ.n 0 n n, σ.push ⟨ints (List.replicate n 0), 1, false⟩) := make_ints ty58 ty2 hn
def iotaF (k : Int) : Nat → List Int
  | 0 => []
  | m + 1 => k :: iotaF (k + 1) m
theorem iotaF_get : ∀ (m : Nat) (k : Int) (i : Nat), i < m → (iotaF k m)[i]? = some (k + (i : Int))
  | 0, _, _, h => by omega
  | m + 1, k, 0, _ => by simp [iotaF]
  | m + 1, k, i + 1, h => by simp only [iotaF, List.getElem?_cons_succ]; rw [iotaF_get m (k + 1) i (by omega)]; congr 1; omega
theorem iotaF_length : ∀ (m : Nat) (k : Int), (iotaF k m).length = m
  | 0, _ => rfl
  | m + 1, k => by simp [iotaF, iotaF_length m]

theorem c32 (n lo hi : Int) (σ : St) : callI TT 32 [.int .i64 n, .int .i64 lo, .int .i64 hi] σ = some (.bool (inR n lo hi), σ) := by
  refine (FnV.mk (args' := [.int .i64 n, .int .i64 lo, .int .i64 hi]) fn32 rfl md32 ⟨⟨[], 0⟩, ?_⟩ (fun _ => rfl) rfl) σ _ rfl
  rw [fi32]
  by_cases h1 : lo ≤ n <;> simp [xI_seq, xI_region, xI_ret, regA, regOps, runOps, opStep, wantedA, opA, evo, evos, calleeA, lk, nif_eq, putE, paramsE, valS, val2, keepE, restrict, finA, resA, binA, binInt, ofConst, ofConst1, loadA, TK.isAgg, asVar, unA, builtinA, lenOpA, lenA, ileb_cast, ileb_eq, ieqb_dec, indexAddrA, inB_dec, evPairs, storeA, AV.cellsOf, pairsOf, xI_nil, binBool, gcE, evOpt, tagZ, inR, h1]

theorem c29 (n lo hi : Int) (σ : St) : callI TT 29 [.int .i64 n, .int .i64 lo, .int .i64 hi] σ = some (.bool (inR n lo hi), σ) := by
  refine (FnV.mk (args' := [.int .i64 n, .int .i64 lo, .int .i64 hi]) fn29 rfl md29 ⟨⟨[], 0⟩, ?_⟩ (fun _ => rfl) rfl) σ _ rfl
  rw [fi29]
  by_cases h1 : lo ≤ n <;> simp [xI_seq, xI_region, xI_ret, regA, regOps, runOps, opStep, wantedA, opA, evo, evos, calleeA, lk, nif_eq, putE, paramsE, valS, val2, keepE, restrict, finA, resA, binA, binInt, ofConst, ofConst1, loadA, TK.isAgg, asVar, unA, builtinA, lenOpA, lenA, ileb_cast, ileb_eq, ieqb_dec, indexAddrA, inB_dec, evPairs, storeA, AV.cellsOf, pairsOf, xI_nil, binBool, gcE, evOpt, tagZ, inR, h1]

/-- A value that shows a list of numbers. -/
def IsL (σ : St) (v : AV) (l : List Int) : Prop := v = .lst l.length (ints l) ∨ ∃ b, v = .sl b 0 l.length l.length ∧ Row σ b l
theorem IsL.frz {σ : St} {v : AV} {l : List Int} {d : Nat} (h : IsL σ v l) : frzV σ (d + 2) v = some (.lst l.length (ints l)) := by
  rcases h with rfl | ⟨b, rfl, h⟩
  · rfl
  · exact h.frz rfl (Nat.le_refl _)
theorem IsL.old {σ σ' : St} {v : AV} {l : List Int} (h : IsL σ v l) (k : Old σ σ') : IsL σ' v l := by
  rcases h with rfl | ⟨b, rfl, h⟩
  · exact .inl rfl
  · exact .inr ⟨b, rfl, h.old k⟩
theorem IsL.len {σ : St} {v : AV} {l : List Int} (h : IsL σ v l) : lenA v = some l.length := by
  rcases h with rfl | ⟨b, rfl, h⟩ <;> rfl
theorem IsL.of_row {σ : St} {b n : Nat} {l : List Int} (h : Row σ b l) (hn : n = l.length) : IsL σ (.sl b 0 n n) l := by subst hn; exact .inr ⟨b, rfl, h⟩
theorem nints_append_row {T : Tab} {σ : St} {b n : Nat} {l : List Nat} {x : Nat} {st e : TypeId} (ht : T.ty st = some ⟨.slice e, 1, 24, [.nilS]⟩) (he : T.ty e = some ⟨.int .i64, 1, 8, [.int .i64 0]⟩)
    (hb : Row σ b (nints l)) (hn : n = l.length) (hs : n < 1000000000000) :
    ∃ σ', appendA T (σ.push ⟨[.int .i64 (x : Int)], 1, false⟩) st st (.sl b 0 n n) (.sl σ.n 0 1 1) = some (.sl (σ.n + 1) 0 (n + 1) (n + 1), σ') ∧ Row σ' (σ.n + 1) (nints (l ++ [x])) ∧ σ'.n = σ.n + 2 ∧ ∀ c, c ≠ b → c < σ.n → σ'.get c = σ.get c := by
  rw [nints_append, nints_one]
  exact append_row ht he hb (by rw [nints_length]; exact hn) hs

def allR (l : List Int) (lo hi : Int) : Bool := l.all fun n => inR n lo hi
theorem c38 (n lo hi : Int) (σ : St) (p q : Nat) (x y : Blk) (hp : σ.get p = some x) (hx : x.cells = [.int .i64 lo]) (hq : σ.get q = some y) (hy : y.cells = [.int .i64 hi]) : callI TT 38 [.int .i64 n, .ptr p 0, .ptr q 0] σ = some (.bool (!inR n lo hi), σ) := by
  rw [cI_0 fn38 rfl md38, fi38]
  simp [xI_seq, xI_region, xI_ret, regA, regOps, runOps, opStep, wantedA, opA, evo, evos, calleeA, lk, nif_eq, putE, paramsE, valS, val2, keepE, restrict, finA, resA, binA, binInt, ofConst, ofConst1, loadA, TK.isAgg, asVar, unA, builtinA, lenOpA, lenA, ileb_cast, ileb_eq, ieqb_dec, indexAddrA, inB_dec, evPairs, storeA, AV.cellsOf, pairsOf, xI_nil, binBool, gcE, evOpt, tagZ, xI_block, xI_loopH, xI_condM, xI_exitM, xI_skip, xI_blk, exitA, ty2, ty4, c32, cellsAt, hp, hx, hq, hy, getCells, takeN, dropN]

noncomputable def b47 : Code := Try.f47.body.getD .skip
noncomputable def B47_0 : Code := (bodyC (bodyC (sndC (fstC (sndC b47)))))
noncomputable def K47_0 : List It := .lp B47_0 :: .blk 0 :: .code (sndC (sndC b47)) :: []
theorem xl47_0 {fi : FI} {env : Env} {σ : St} : exI TT fi K47_0 env σ = exI TT fi (.code B47_0 :: K47_0) env σ := by unfold K47_0; exact xI_lp
noncomputable def R47_0_0 : List It := .code (sndC (sndC b47)) :: []
theorem eK47_0_0 : exitA 0 K47_0 = some R47_0_0 := rfl
theorem l47 (l : List Int) (len : Nat) (hlen : len = l.length) (hs : len < 3000000) (lo hi : Int) (σ : St) (p q : Nat) (x y : Blk) (hp : σ.get p = some x) (hx : x.cells = [.int .i64 lo]) (hq : σ.get q = some y) (hy : y.cells = [.int .i64 hi]) : ∀ (suf pre : List Int), l = pre ++ suf →
    ∃ r : Int, exI TT (FI.of Try.f47 (TT.an 47)) K47_0 [(0, .lst len (ints l)), (1, .fn 38 [] [.ptr p 0, .ptr q 0]), (7, .int .i64 len), (8, .int .i64 pre.length)] σ = some (.int .i64 r, σ) ∧ decide (0 ≤ r) = !allR suf lo hi := by
  intro suf
  induction suf with
  | nil =>
    intro pre hl
    refine ⟨-1, ?_, by simp [allR]⟩
    have hl : len = pre.length := by rw [hlen, hl]; simp
    subst hl
    rw [fi47]
    rw [xl47_0]
    simp only [B47_0, b47, Try.f47, Option.getD, fstC, sndC, bodyC, thnC, elsC]
    simp [xI_seq, xI_region, xI_ret, regA, regOps, runOps, opStep, wantedA, opA, evo, evos, calleeA, lk, nif_eq, putE, paramsE, valS, val2, keepE, restrict, finA, resA, binA, binInt, ofConst, ofConst1, loadA, TK.isAgg, asVar, unA, builtinA, lenOpA, lenA, ileb_cast, ileb_eq, ieqb_dec, indexAddrA, inB_dec, evPairs, storeA, AV.cellsOf, pairsOf, xI_nil, binBool, gcE, evOpt, tagZ, xI_block, xI_loopH, xI_condM, xI_exitM, xI_skip, xI_blk, exitA, ty2, ty3, ty58, eK47_0_0]
    simp only [R47_0_0, b47, Try.f47, Option.getD, fstC, sndC, bodyC, thnC, elsC]
    simp [xI_seq, xI_region, xI_ret, regA, regOps, runOps, opStep, wantedA, opA, evo, evos, calleeA, lk, nif_eq, putE, paramsE, valS, val2, keepE, restrict, finA, resA, binA, binInt, ofConst, ofConst1, loadA, TK.isAgg, asVar, unA, builtinA, lenOpA, lenA, ileb_cast, ileb_eq, ieqb_dec, indexAddrA, inB_dec, evPairs, storeA, AV.cellsOf, pairsOf, xI_nil, binBool, gcE, evOpt, tagZ, xI_block, xI_loopH, xI_condM, xI_exitM, xI_skip, xI_blk, exitA, ty2, ty3, ty58, eK47_0_0]
  | cons n suf ih =>
    intro pre hl
    have hll : len = pre.length + (suf.length + 1) := by rw [hlen, hl]; simp
    have hg : l[pre.length]? = some n := by simp [hl]
    obtain ⟨r, h1, h2⟩ := ih (pre ++ [n]) (by simp [hl])
    have hlt : ¬ len ≤ pre.length := by omega
    have hlt2 : pre.length < len := by omega
    have hw := wrapS (n := pre.length) (by omega)
    have hc := c38 n lo hi σ p q x y hp hx hq hy
    simp only [List.length_append, List.length_singleton] at h1
    cases hin : inR n lo hi with
    | true =>
      rw [hin] at hc
      refine ⟨r, ?_, by rw [h2]; simp [allR, hin]⟩
      rw [fi47] at h1 ⊢
      rw [xl47_0]
      simp only [B47_0, b47, Try.f47, Option.getD, fstC, sndC, bodyC, thnC, elsC]
      simp [xI_seq, xI_region, xI_ret, regA, regOps, runOps, opStep, wantedA, opA, evo, evos, calleeA, lk, nif_eq, putE, paramsE, valS, val2, keepE, restrict, finA, resA, binA, binInt, ofConst, ofConst1, loadA, TK.isAgg, asVar, unA, builtinA, lenOpA, lenA, ileb_cast, ileb_eq, ieqb_dec, indexAddrA, inB_dec, evPairs, storeA, AV.cellsOf, pairsOf, xI_nil, binBool, gcE, evOpt, tagZ, xI_block, xI_loopH, xI_condM, xI_exitM, xI_skip, xI_blk, exitA, ty2, ty3, ty58, eK47_0_0, hw, hlt, hlt2, lst_read hg, hc]
      simpa using h1
    | false =>
      rw [hin] at hc
      refine ⟨pre.length, ?_, by simp [allR, hin]⟩
      rw [fi47]
      rw [xl47_0]
      simp only [B47_0, b47, Try.f47, Option.getD, fstC, sndC, bodyC, thnC, elsC]
      simp [xI_seq, xI_region, xI_ret, regA, regOps, runOps, opStep, wantedA, opA, evo, evos, calleeA, lk, nif_eq, putE, paramsE, valS, val2, keepE, restrict, finA, resA, binA, binInt, ofConst, ofConst1, loadA, TK.isAgg, asVar, unA, builtinA, lenOpA, lenA, ileb_cast, ileb_eq, ieqb_dec, indexAddrA, inB_dec, evPairs, storeA, AV.cellsOf, pairsOf, xI_nil, binBool, gcE, evOpt, tagZ, xI_block, xI_loopH, xI_condM, xI_exitM, xI_skip, xI_blk, exitA, ty2, ty3, ty58, eK47_0_0, hw, hlt, hlt2, lst_read hg, hc]

theorem c37 (l : List Int) (len : Nat) (hlen : len = l.length) (hs : len < 3000000) (lo hi : Int) (σ : St) (p q : Nat) (x y : Blk) (hp : σ.get p = some x) (hx : x.cells = [.int .i64 lo]) (hq : σ.get q = some y) (hy : y.cells = [.int .i64 hi]) :
    callI TT 37 [.lst len (ints l), .fn 38 [] [.ptr p 0, .ptr q 0]] σ = some (.bool (!allR l lo hi), σ) := by
  obtain ⟨r, h1, h2⟩ := l47 l len hlen hs lo hi σ p q x y hp hx hq hy l [] rfl
  have hc : callI TT 47 [.lst len (ints l), .fn 38 [] [.ptr p 0, .ptr q 0]] σ = some (.int .i64 r, σ) := by
    rw [cI_0 fn47 rfl md47, ← h1, fi47]
    simp [xI_seq, xI_region, xI_ret, regA, regOps, runOps, opStep, wantedA, opA, evo, evos, calleeA, lk, nif_eq, putE, paramsE, valS, val2, keepE, restrict, finA, resA, binA, binInt, ofConst, ofConst1, loadA, TK.isAgg, asVar, unA, builtinA, lenOpA, lenA, ileb_cast, ileb_eq, ieqb_dec, indexAddrA, inB_dec, evPairs, storeA, AV.cellsOf, pairsOf, xI_nil, binBool, gcE, evOpt, tagZ, xI_block, xI_loopH, xI_condM, xI_exitM, xI_skip, xI_blk, exitA, ty2, ty3, ty58, eK47_0_0]
    rfl
  rw [cI_0 fn37 rfl md37, fi37]
  simp [xI_seq, xI_region, xI_ret, regA, regOps, runOps, opStep, wantedA, opA, evo, evos, calleeA, lk, nif_eq, putE, paramsE, valS, val2, keepE, restrict, finA, resA, binA, binInt, ofConst, ofConst1, loadA, TK.isAgg, asVar, unA, builtinA, lenOpA, lenA, ileb_cast, ileb_eq, ieqb_dec, indexAddrA, inB_dec, evPairs, storeA, AV.cellsOf, pairsOf, xI_nil, binBool, gcE, evOpt, tagZ, xI_block, xI_loopH, xI_condM, xI_exitM, xI_skip, xI_blk, exitA, ty3, hc, h2]

theorem v27 (l : List Int) (len : Nat) (hlen : len = l.length) (hs : len < 3000000) (lo hi : Int) : FnV TT 27 [.lst len (ints l), .int .i64 lo, .int .i64 hi] (.bool (allR l lo hi)) := by
  have h := c37 l len hlen hs lo hi (((⟨[], 0⟩ : St).push ⟨[.int .i64 lo], 1, false⟩).push ⟨[.int .i64 hi], 1, false⟩) 0 1 _ _ rfl rfl rfl rfl
  refine FnV.mk fn27 rfl md27 ⟨((⟨[], 0⟩ : St).push ⟨[.int .i64 lo], 1, false⟩).push ⟨[.int .i64 hi], 1, false⟩, ?_⟩ (fun _ => rfl) rfl
  rw [fi27]
  simp [xI_seq, xI_region, xI_ret, regA, regOps, runOps, opStep, wantedA, opA, evo, evos, calleeA, lk, nif_eq, putE, paramsE, valS, val2, keepE, restrict, finA, resA, binA, binInt, ofConst, ofConst1, loadA, TK.isAgg, asVar, unA, builtinA, lenOpA, lenA, ileb_cast, ileb_eq, ieqb_dec, indexAddrA, inB_dec, evPairs, storeA, AV.cellsOf, pairsOf, xI_nil, binBool, gcE, evOpt, tagZ, xI_block, xI_loopH, xI_condM, xI_exitM, xI_skip, xI_blk, exitA, ty2, ty4, h, allOne, AV.one, n_push]

theorem inR_iff {n lo hi : Int} : inR n lo hi = true ↔ lo ≤ n ∧ n ≤ hi := by simp [inR]
theorem allR_spec {l : List Int} {lo hi : Int} (h : allR l lo hi = true) : ∀ c ∈ l, lo ≤ c ∧ c ≤ hi := fun c hc => inR_iff.1 (List.all_eq_true.1 h c hc)
end Go.Proofs.Ythkdbkjkccogfaa
