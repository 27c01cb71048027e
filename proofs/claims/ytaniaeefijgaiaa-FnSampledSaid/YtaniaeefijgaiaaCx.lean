/- Contracts: looking for a number, insertion, sorting few numbers. Nothing is claimed here; no condition. -/
import Derived.Test.YtaniaeefijgaiaaCe
namespace Go.Proofs.Ytaniaeefijgaiaa
open Go Go.Abs
set_option linter.unusedSimpArgs false
set_option linter.unusedVariables false
/-- Where a number stands first; -1 if nowhere. -/
def ixF (x : Int) : List Int → Nat → Int
  | [], _ => -1
  | y :: r, k => if x = y then k else ixF x r (k + 1)
theorem ixF_mem (x : Int) : ∀ (l : List Int) (k : Nat), decide (0 ≤ ixF x l k) = decide (x ∈ l)
  | [], k => by simp [ixF]
  | y :: r, k => by
    simp only [ixF]
    split
    · rename_i h; simp [h]
    · rename_i h; rw [ixF_mem x r (k + 1)]; simp [h]

noncomputable def b97 : Code := Try.f97.body.getD .skip
noncomputable def B97_0 : Code := (bodyC (bodyC (sndC (fstC (sndC b97)))))
noncomputable def K97_0 : List It := .lp B97_0 :: .blk 0 :: .code (sndC (sndC b97)) :: []
theorem xl97_0 {fi : FI} {env : Env} {σ : St} : exI TT fi K97_0 env σ = exI TT fi (.code B97_0 :: K97_0) env σ := by unfold K97_0; exact xI_lp
noncomputable def R97_0_0 : List It := .code (sndC (sndC b97)) :: []
theorem eK97_0_0 : exitA 0 K97_0 = some R97_0_0 := rfl
theorem l97 (l : List Int) (len : Nat) (hlen : len = l.length) (hs : len < 3000000) (x : Int) (σ : St) : ∀ (suf pre : List Int), l = pre ++ suf →
    exI TT (FI.of Try.f97 (TT.an 97)) K97_0 [(0, .lst len (ints l)), (1, .int .i64 x), (7, .int .i64 len), (8, .int .i64 pre.length)] σ = some (.int .i64 (ixF x suf pre.length), σ) := by
  intro suf
  induction suf with
  | nil =>
    intro pre hl
    have hll : len = pre.length := by rw [hlen, hl]; simp
    subst hll
    rw [fi97]
    rw [xl97_0]
    simp only [B97_0, b97, Try.f97, Option.getD, fstC, sndC, bodyC, thnC, elsC]
    simp [xI_seq, xI_region, xI_ret, regA, regOps, runOps, opStep, wantedA, opA, evo, evos, calleeA, lk, nif_eq, putE, paramsE, valS, val2, keepE, restrict, finA, resA, binA, binInt, ofConst, ofConst1, loadA, TK.isAgg, asVar, unA, builtinA, lenOpA, lenA, ileb_cast, ileb_eq, ieqb_dec, indexAddrA, inB_dec, evPairs, storeA, AV.cellsOf, pairsOf, xI_nil, binBool, gcE, evOpt, xI_block, xI_loopH, xI_condM, xI_exitM, xI_skip, xI_blk, exitA, ty2, ty3, ty22, eK97_0_0]
    simp only [R97_0_0, b97, Try.f97, Option.getD, fstC, sndC, bodyC, thnC, elsC]
    simp [xI_seq, xI_region, xI_ret, regA, regOps, runOps, opStep, wantedA, opA, evo, evos, calleeA, lk, nif_eq, putE, paramsE, valS, val2, keepE, restrict, finA, resA, binA, binInt, ofConst, ofConst1, loadA, TK.isAgg, asVar, unA, builtinA, lenOpA, lenA, ileb_cast, ileb_eq, ieqb_dec, indexAddrA, inB_dec, evPairs, storeA, AV.cellsOf, pairsOf, xI_nil, binBool, gcE, evOpt, xI_block, xI_loopH, xI_condM, xI_exitM, xI_skip, xI_blk, exitA, ty2, ty3, ty22, eK97_0_0, ixF]
  | cons y suf ih =>
    intro pre hl
    have hll : len = pre.length + (suf.length + 1) := by rw [hlen, hl]; simp
    have hg : l[pre.length]? = some y := by simp [hl]
    have h1 := ih (pre ++ [y]) (by simp [hl])
    simp only [List.length_append, List.length_singleton] at h1
    have hlt : ¬ len ≤ pre.length := by omega
    have hlt2 : pre.length < len := by omega
    have hw := wrapS (n := pre.length) (by omega)
    by_cases hxy : x = y
    · subst hxy
      rw [fi97]
      rw [xl97_0]
      simp only [B97_0, b97, Try.f97, Option.getD, fstC, sndC, bodyC, thnC, elsC]
      simp [xI_seq, xI_region, xI_ret, regA, regOps, runOps, opStep, wantedA, opA, evo, evos, calleeA, lk, nif_eq, putE, paramsE, valS, val2, keepE, restrict, finA, resA, binA, binInt, ofConst, ofConst1, loadA, TK.isAgg, asVar, unA, builtinA, lenOpA, lenA, ileb_cast, ileb_eq, ieqb_dec, indexAddrA, inB_dec, evPairs, storeA, AV.cellsOf, pairsOf, xI_nil, binBool, gcE, evOpt, xI_block, xI_loopH, xI_condM, xI_exitM, xI_skip, xI_blk, exitA, ty2, ty3, ty22, eK97_0_0, hw, hlt, hlt2, lst_read hg, ixF]
    · rw [show ixF x (y :: suf) pre.length = ixF x suf (pre.length + 1) by simp [ixF, hxy]]
      rw [fi97] at h1 ⊢
      rw [xl97_0]
      simp only [B97_0, b97, Try.f97, Option.getD, fstC, sndC, bodyC, thnC, elsC]
      simp [xI_seq, xI_region, xI_ret, regA, regOps, runOps, opStep, wantedA, opA, evo, evos, calleeA, lk, nif_eq, putE, paramsE, valS, val2, keepE, restrict, finA, resA, binA, binInt, ofConst, ofConst1, loadA, TK.isAgg, asVar, unA, builtinA, lenOpA, lenA, ileb_cast, ileb_eq, ieqb_dec, indexAddrA, inB_dec, evPairs, storeA, AV.cellsOf, pairsOf, xI_nil, binBool, gcE, evOpt, xI_block, xI_loopH, xI_condM, xI_exitM, xI_skip, xI_blk, exitA, ty2, ty3, ty22, eK97_0_0, hw, hlt, hlt2, lst_read hg, hxy]
      simpa using h1
theorem v97 (l : List Int) (len : Nat) (hlen : len = l.length) (hs : len < 3000000) (x : Int) : FnV TT 97 [.lst len (ints l), .int .i64 x] (.int .i64 (ixF x l 0)) := by
  refine FnV.mk fn97 rfl md97 ⟨⟨[], 0⟩, ?_⟩ (fun _ => rfl) rfl
  have h := l97 l len hlen hs x ⟨[], 0⟩ l [] rfl
  rw [fi97] at h ⊢
  simp [xI_seq, xI_region, xI_ret, regA, regOps, runOps, opStep, wantedA, opA, evo, evos, calleeA, lk, nif_eq, putE, paramsE, valS, val2, keepE, restrict, finA, resA, binA, binInt, ofConst, ofConst1, loadA, TK.isAgg, asVar, unA, builtinA, lenOpA, lenA, ileb_cast, ileb_eq, ieqb_dec, indexAddrA, inB_dec, evPairs, storeA, AV.cellsOf, pairsOf, xI_nil, binBool, gcE, evOpt, xI_block, xI_loopH, xI_condM, xI_exitM, xI_skip, xI_blk, exitA, ty2, ty3, ty22, eK97_0_0]
  exact h

theorem v92 (l : List Int) (len : Nat) (hlen : len = l.length) (hs : len < 3000000) (x : Int) : FnV TT 92 [.lst len (ints l), .int .i64 x] (.bool (decide (x ∈ l))) := by
  refine FnV.mk fn92 rfl md92 ⟨⟨[], 0⟩, ?_⟩ (fun _ => rfl) rfl
  have h : ∀ σ, callI TT 97 [.lst len (ints l), .int .i64 x] σ = some (.int .i64 (ixF x l 0), σ) := fun σ => v97 l len hlen hs x σ _ rfl
  have h2 := ixF_mem x l 0
  rw [← h2]
  generalize ixF x l 0 = z at *
  rw [fi92]
  simp [xI_seq, xI_region, xI_ret, regA, regOps, runOps, opStep, wantedA, opA, evo, evos, calleeA, lk, nif_eq, putE, paramsE, valS, val2, keepE, restrict, finA, resA, binA, binInt, ofConst, ofConst1, loadA, TK.isAgg, asVar, unA, builtinA, lenOpA, lenA, ileb_cast, ileb_eq, ieqb_dec, indexAddrA, inB_dec, evPairs, storeA, AV.cellsOf, pairsOf, xI_nil, binBool, gcE, evOpt, xI_block, xI_loopH, xI_condM, xI_exitM, xI_skip, xI_blk, exitA, ty3, h]

noncomputable def b90 : Code := Try.f90.body.getD .skip
noncomputable def B90_0 : Code := (bodyC (bodyC (sndC (fstC (sndC b90)))))
noncomputable def K90_0 : List It := .lp B90_0 :: .blk 0 :: .code (sndC (sndC b90)) :: []
theorem xl90_0 {fi : FI} {env : Env} {σ : St} : exI TT fi K90_0 env σ = exI TT fi (.code B90_0 :: K90_0) env σ := by unfold K90_0; exact xI_lp
noncomputable def R90_0_0 : List It := .code (sndC (sndC b90)) :: []
theorem eK90_0_0 : exitA 0 K90_0 = some R90_0_0 := rfl
theorem l90 (l : List Int) (len : Nat) (hlen : len = l.length) (hs : len < 3000000) (x : Int) (σ : St) : ∀ (suf pre : List Int), l = pre ++ suf →
    exI TT (FI.of Try.f90 (TT.an 90)) K90_0 [(0, .lst len (ints l)), (1, .int .i64 x), (5, .int .i64 pre.length)] σ = some (.bool (decide (x ∈ suf)), σ) := by
  intro suf
  induction suf with
  | nil =>
    intro pre hl
    have hll : len = pre.length := by rw [hlen, hl]; simp
    subst hll
    rw [fi90]
    rw [xl90_0]
    simp only [B90_0, b90, Try.f90, Option.getD, fstC, sndC, bodyC, thnC, elsC]
    simp [xI_seq, xI_region, xI_ret, regA, regOps, runOps, opStep, wantedA, opA, evo, evos, calleeA, lk, nif_eq, putE, paramsE, valS, val2, keepE, restrict, finA, resA, binA, binInt, ofConst, ofConst1, loadA, TK.isAgg, asVar, unA, builtinA, lenOpA, lenA, ileb_cast, ileb_eq, ieqb_dec, indexAddrA, inB_dec, evPairs, storeA, AV.cellsOf, pairsOf, xI_nil, binBool, gcE, evOpt, xI_block, xI_loopH, xI_condM, xI_exitM, xI_skip, xI_blk, exitA, ty2, ty3, ty22, eK90_0_0]
    simp only [R90_0_0, b90, Try.f90, Option.getD, fstC, sndC, bodyC, thnC, elsC]
    simp [xI_seq, xI_region, xI_ret, regA, regOps, runOps, opStep, wantedA, opA, evo, evos, calleeA, lk, nif_eq, putE, paramsE, valS, val2, keepE, restrict, finA, resA, binA, binInt, ofConst, ofConst1, loadA, TK.isAgg, asVar, unA, builtinA, lenOpA, lenA, ileb_cast, ileb_eq, ieqb_dec, indexAddrA, inB_dec, evPairs, storeA, AV.cellsOf, pairsOf, xI_nil, binBool, gcE, evOpt, xI_block, xI_loopH, xI_condM, xI_exitM, xI_skip, xI_blk, exitA, ty2, ty3, ty22, eK90_0_0]
  | cons y suf ih =>
    intro pre hl
    have hll : len = pre.length + (suf.length + 1) := by rw [hlen, hl]; simp
    have hg : l[pre.length]? = some y := by simp [hl]
    have h1 := ih (pre ++ [y]) (by simp [hl])
    simp only [List.length_append, List.length_singleton] at h1
    have hlt : ¬ len ≤ pre.length := by omega
    have hlt2 : pre.length < len := by omega
    have hw := wrapS (n := pre.length) (by omega)
    by_cases hxy : y = x
    · have hm : decide (x ∈ y :: suf) = true := by simp [hxy]
      rw [hm]
      rw [fi90]
      rw [xl90_0]
      simp only [B90_0, b90, Try.f90, Option.getD, fstC, sndC, bodyC, thnC, elsC]
      simp [xI_seq, xI_region, xI_ret, regA, regOps, runOps, opStep, wantedA, opA, evo, evos, calleeA, lk, nif_eq, putE, paramsE, valS, val2, keepE, restrict, finA, resA, binA, binInt, ofConst, ofConst1, loadA, TK.isAgg, asVar, unA, builtinA, lenOpA, lenA, ileb_cast, ileb_eq, ieqb_dec, indexAddrA, inB_dec, evPairs, storeA, AV.cellsOf, pairsOf, xI_nil, binBool, gcE, evOpt, xI_block, xI_loopH, xI_condM, xI_exitM, xI_skip, xI_blk, exitA, ty2, ty3, ty22, eK90_0_0, hw, hlt, hlt2, lst_read hg, hxy]
    · have hm : decide (x ∈ y :: suf) = decide (x ∈ suf) := by simp [Ne.symm hxy]
      rw [hm]
      rw [fi90] at h1 ⊢
      rw [xl90_0]
      simp only [B90_0, b90, Try.f90, Option.getD, fstC, sndC, bodyC, thnC, elsC]
      simp [xI_seq, xI_region, xI_ret, regA, regOps, runOps, opStep, wantedA, opA, evo, evos, calleeA, lk, nif_eq, putE, paramsE, valS, val2, keepE, restrict, finA, resA, binA, binInt, ofConst, ofConst1, loadA, TK.isAgg, asVar, unA, builtinA, lenOpA, lenA, ileb_cast, ileb_eq, ieqb_dec, indexAddrA, inB_dec, evPairs, storeA, AV.cellsOf, pairsOf, xI_nil, binBool, gcE, evOpt, xI_block, xI_loopH, xI_condM, xI_exitM, xI_skip, xI_blk, exitA, ty2, ty3, ty22, eK90_0_0, hw, hlt, hlt2, lst_read hg, hxy]
      simpa using h1
theorem v90 (l : List Int) (len : Nat) (hlen : len = l.length) (hs : len < 3000000) (x : Int) : FnV TT 90 [.lst len (ints l), .int .i64 x] (.bool (decide (x ∈ l))) := by
  refine FnV.mk fn90 rfl md90 ⟨⟨[], 0⟩, ?_⟩ (fun _ => rfl) rfl
  have h := l90 l len hlen hs x ⟨[], 0⟩ l [] rfl
  rw [fi90] at h ⊢
  simp [xI_seq, xI_region, xI_ret, regA, regOps, runOps, opStep, wantedA, opA, evo, evos, calleeA, lk, nif_eq, putE, paramsE, valS, val2, keepE, restrict, finA, resA, binA, binInt, ofConst, ofConst1, loadA, TK.isAgg, asVar, unA, builtinA, lenOpA, lenA, ileb_cast, ileb_eq, ieqb_dec, indexAddrA, inB_dec, evPairs, storeA, AV.cellsOf, pairsOf, xI_nil, binBool, gcE, evOpt, xI_block, xI_loopH, xI_condM, xI_exitM, xI_skip, xI_blk, exitA, ty2, ty3, ty22, eK90_0_0]
  exact h
/-- A number put among rising ones, once. -/
def put (x : Int) : List Int → List Int
  | [] => [x]
  | y :: r => if x ≤ y then (if x < y then x :: y :: r else y :: r) else y :: put x r
theorem put_length (x : Int) : ∀ l : List Int, (put x l).length ≤ l.length + 1
  | [] => by simp [put]
  | y :: r => by
    have := put_length x r
    simp only [put]
    split
    · split <;> simp
    · simp; omega

noncomputable def b91 : Code := Try.f91.body.getD .skip
noncomputable def B91_0 : Code := (bodyC (bodyC (sndC (fstC (sndC (sndC (sndC b91)))))))
noncomputable def K91_0 : List It := .lp B91_0 :: .blk 0 :: .code (sndC (sndC (sndC (sndC b91)))) :: []
theorem xl91_0 {fi : FI} {env : Env} {σ : St} : exI TT fi K91_0 env σ = exI TT fi (.code B91_0 :: K91_0) env σ := by unfold K91_0; exact xI_lp
noncomputable def R91_0_0 : List It := .code (sndC (sndC (sndC (sndC b91)))) :: []
theorem eK91_0_0 : exitA 0 K91_0 = some R91_0_0 := rfl
theorem l91 (l : List Int) (len : Nat) (hlen : len = l.length) (hs : len < 100000) (x : Int) : ∀ (suf pre : List Int) (σ : St) (b c : Nat) (out : List Int) (dn : Bool), l = pre ++ suf → out.length = c → c ≤ 2 * pre.length → Row σ b out →
    ∃ σ' b' c', exI TT (FI.of Try.f91 (TT.an 91)) K91_0 [(0, .lst len (ints l)), (1, .int .i64 x), (5, .sl b 0 c c), (6, .bool dn), (7, .int .i64 pre.length)] σ = some (.sl b' 0 c' c', σ') ∧ Row σ' b' (out ++ (if dn = true then suf else put x suf)) ∧ c' = (out ++ (if dn = true then suf else put x suf)).length := by
  intro suf
  induction suf with
  | nil =>
    intro pre σ b c out dn hl hc hcp hr
    have hll : len = pre.length := by rw [hlen, hl]; simp
    subst hll
    cases dn with
    | true =>
      refine ⟨σ, b, c, ?_, by simpa using hr, by simp [hc]⟩
      rw [fi91]
      rw [xl91_0]
      simp only [B91_0, b91, Try.f91, Option.getD, fstC, sndC, bodyC, thnC, elsC]
      simp [xI_seq, xI_region, xI_ret, regA, regOps, runOps, opStep, wantedA, opA, evo, evos, calleeA, lk, nif_eq, putE, paramsE, valS, val2, keepE, restrict, finA, resA, binA, binInt, ofConst, ofConst1, loadA, TK.isAgg, asVar, unA, builtinA, lenOpA, lenA, ileb_cast, ileb_eq, ieqb_dec, indexAddrA, inB_dec, evPairs, storeA, AV.cellsOf, pairsOf, xI_nil, binBool, gcE, evOpt, xI_block, xI_loopH, xI_condM, xI_exitM, xI_skip, xI_blk, exitA, ty2, ty3, ty4, ty22, eK91_0_0]
      simp only [R91_0_0, b91, Try.f91, Option.getD, fstC, sndC, bodyC, thnC, elsC]
      simp [xI_seq, xI_region, xI_ret, regA, regOps, runOps, opStep, wantedA, opA, evo, evos, calleeA, lk, nif_eq, putE, paramsE, valS, val2, keepE, restrict, finA, resA, binA, binInt, ofConst, ofConst1, loadA, TK.isAgg, asVar, unA, builtinA, lenOpA, lenA, ileb_cast, ileb_eq, ieqb_dec, indexAddrA, inB_dec, evPairs, storeA, AV.cellsOf, pairsOf, xI_nil, binBool, gcE, evOpt, xI_block, xI_loopH, xI_condM, xI_exitM, xI_skip, xI_blk, exitA, ty2, ty3, ty4, ty22, eK91_0_0]
    | false =>
      obtain ⟨σ1, ha, hr1, hn1, hf1⟩ := append_row (x := x) ty22 ty2 hr hc.symm (by omega)
      refine ⟨σ1, σ.n + 1, c + 1, ?_, by simpa [put] using hr1, by simp [hc, put]⟩
      rw [fi91]
      rw [xl91_0]
      simp only [B91_0, b91, Try.f91, Option.getD, fstC, sndC, bodyC, thnC, elsC]
      simp [xI_seq, xI_region, xI_ret, regA, regOps, runOps, opStep, wantedA, opA, evo, evos, calleeA, lk, nif_eq, putE, paramsE, valS, val2, keepE, restrict, finA, resA, binA, binInt, ofConst, ofConst1, loadA, TK.isAgg, asVar, unA, builtinA, lenOpA, lenA, ileb_cast, ileb_eq, ieqb_dec, indexAddrA, inB_dec, evPairs, storeA, AV.cellsOf, pairsOf, xI_nil, binBool, gcE, evOpt, xI_block, xI_loopH, xI_condM, xI_exitM, xI_skip, xI_blk, exitA, ty2, ty3, ty4, ty22, eK91_0_0]
      simp only [R91_0_0, b91, Try.f91, Option.getD, fstC, sndC, bodyC, thnC, elsC]
      simp [xI_seq, xI_region, xI_ret, regA, regOps, runOps, opStep, wantedA, opA, evo, evos, calleeA, lk, nif_eq, putE, paramsE, valS, val2, keepE, restrict, finA, resA, binA, binInt, ofConst, ofConst1, loadA, TK.isAgg, asVar, unA, builtinA, lenOpA, lenA, ileb_cast, ileb_eq, ieqb_dec, indexAddrA, inB_dec, evPairs, storeA, AV.cellsOf, pairsOf, xI_nil, binBool, gcE, evOpt, xI_block, xI_loopH, xI_condM, xI_exitM, xI_skip, xI_blk, exitA, ty2, ty3, ty4, ty22, eK91_0_0, bs22, ha]
  | cons y suf ih =>
    intro pre σ b c out dn hl hc hcp hr
    have hll : len = pre.length + (suf.length + 1) := by rw [hlen, hl]; simp
    have hg : l[pre.length]? = some y := by simp [hl]
    have hlt : ¬ len ≤ pre.length := by omega
    have hlt2 : pre.length < len := by omega
    have hw := wrapS (n := pre.length) (by omega)
    have one : ∀ (σ : St) (b c : Nat) (out : List Int) (dn : Bool), out.length = c → c ≤ 2 * pre.length + 1 → Row σ b out → ∃ σ1 σ' b' c', appendA TT (σ.push ⟨[.int .i64 y], 1, false⟩) 22 22 (.sl b 0 c c) (.sl σ.n 0 1 1) = some (.sl (σ.n + 1) 0 (c + 1) (c + 1), σ1) ∧
        exI TT (FI.of Try.f91 (TT.an 91)) K91_0 [(0, .lst len (ints l)), (1, .int .i64 x), (5, .sl (σ.n + 1) 0 (c + 1) (c + 1)), (6, .bool dn), (7, .int .i64 ((pre.length : Int) + 1))] σ1 = some (.sl b' 0 c' c', σ') ∧ Row σ' b' (out ++ y :: (if dn = true then suf else put x suf)) ∧ c' = (out ++ y :: (if dn = true then suf else put x suf)).length := by
      intro σ b c out dn hc hcp hr
      obtain ⟨σ1, ha, hr1, hn1, hf1⟩ := append_row (x := y) ty22 ty2 hr hc.symm (by omega)
      obtain ⟨σ', b', c', h1, h2, h3⟩ := ih (pre ++ [y]) σ1 (σ.n + 1) (c + 1) (out ++ [y]) dn (by simp [hl]) (by simp [hc]) (by simp; omega) hr1
      simp only [List.length_append, List.length_singleton] at h1
      rw [show ((pre.length + 1 : Nat) : Int) = (pre.length : Int) + 1 by omega] at h1
      exact ⟨σ1, σ', b', c', ha, h1, by simpa using h2, by simpa using h3⟩
    have plain : ∀ dn' : Bool, (dn = true ∧ dn' = true) ∨ (dn = false ∧ dn' = false ∧ ¬ x ≤ y) ∨ (dn = false ∧ dn' = true ∧ x ≤ y ∧ ¬ x < y) → ∃ σ' b' c', exI TT (FI.of Try.f91 (TT.an 91)) K91_0 [(0, .lst len (ints l)), (1, .int .i64 x), (5, .sl b 0 c c), (6, .bool dn), (7, .int .i64 pre.length)] σ = some (.sl b' 0 c' c', σ') ∧ Row σ' b' (out ++ y :: (if dn' = true then suf else put x suf)) ∧ c' = (out ++ y :: (if dn' = true then suf else put x suf)).length := by
      intro dn' hcase
      obtain ⟨σ1, σ', b', c', ha, h1, h2, h3⟩ := one σ b c out dn' hc (by omega) hr
      refine ⟨σ', b', c', ?_, h2, h3⟩
      rcases hcase with ⟨rfl, rfl⟩ | ⟨rfl, rfl, hxy⟩ | ⟨rfl, rfl, hxy, hxy2⟩
      · rw [fi91] at h1 ⊢
        rw [xl91_0]
        simp only [B91_0, b91, Try.f91, Option.getD, fstC, sndC, bodyC, thnC, elsC]
        simp [xI_seq, xI_region, xI_ret, regA, regOps, runOps, opStep, wantedA, opA, evo, evos, calleeA, lk, nif_eq, putE, paramsE, valS, val2, keepE, restrict, finA, resA, binA, binInt, ofConst, ofConst1, loadA, TK.isAgg, asVar, unA, builtinA, lenOpA, lenA, ileb_cast, ileb_eq, ieqb_dec, indexAddrA, inB_dec, evPairs, storeA, AV.cellsOf, pairsOf, xI_nil, binBool, gcE, evOpt, xI_block, xI_loopH, xI_condM, xI_exitM, xI_skip, xI_blk, exitA, ty2, ty3, ty4, ty22, eK91_0_0, hw, hlt, hlt2, lst_read hg, bs22, ha]
        exact h1
      · rw [fi91] at h1 ⊢
        rw [xl91_0]
        simp only [B91_0, b91, Try.f91, Option.getD, fstC, sndC, bodyC, thnC, elsC]
        simp [xI_seq, xI_region, xI_ret, regA, regOps, runOps, opStep, wantedA, opA, evo, evos, calleeA, lk, nif_eq, putE, paramsE, valS, val2, keepE, restrict, finA, resA, binA, binInt, ofConst, ofConst1, loadA, TK.isAgg, asVar, unA, builtinA, lenOpA, lenA, ileb_cast, ileb_eq, ieqb_dec, indexAddrA, inB_dec, evPairs, storeA, AV.cellsOf, pairsOf, xI_nil, binBool, gcE, evOpt, xI_block, xI_loopH, xI_condM, xI_exitM, xI_skip, xI_blk, exitA, ty2, ty3, ty4, ty22, eK91_0_0, hw, hlt, hlt2, lst_read hg, bs22, ha, hxy]
        exact h1
      · have hxy3 : y ≤ x := by omega
        rw [fi91] at h1 ⊢
        rw [xl91_0]
        simp only [B91_0, b91, Try.f91, Option.getD, fstC, sndC, bodyC, thnC, elsC]
        simp [xI_seq, xI_region, xI_ret, regA, regOps, runOps, opStep, wantedA, opA, evo, evos, calleeA, lk, nif_eq, putE, paramsE, valS, val2, keepE, restrict, finA, resA, binA, binInt, ofConst, ofConst1, loadA, TK.isAgg, asVar, unA, builtinA, lenOpA, lenA, ileb_cast, ileb_eq, ieqb_dec, indexAddrA, inB_dec, evPairs, storeA, AV.cellsOf, pairsOf, xI_nil, binBool, gcE, evOpt, xI_block, xI_loopH, xI_condM, xI_exitM, xI_skip, xI_blk, exitA, ty2, ty3, ty4, ty22, eK91_0_0, hw, hlt, hlt2, lst_read hg, bs22, ha, hxy, hxy3]
        exact h1
    cases dn with
    | true => simpa using plain true (.inl ⟨rfl, rfl⟩)
    | false =>
      by_cases hxy : x ≤ y
      · by_cases hxy2 : x < y
        · have hp : put x (y :: suf) = x :: y :: suf := by simp [put, hxy, hxy2]
          obtain ⟨σ0, ha0, hr0, hn0, hf0⟩ := append_row (x := x) ty22 ty2 hr hc.symm (by omega)
          obtain ⟨σ1, σ', b', c', ha, h1, h2, h3⟩ := one σ0 (σ.n + 1) (c + 1) (out ++ [x]) true (by simp [hc]) (by omega) hr0
          refine ⟨σ', b', c', ?_, by simpa [hp] using h2, by simpa [hp] using h3⟩
          have hxy3 : ¬ y ≤ x := by omega
          rw [fi91] at h1 ⊢
          rw [xl91_0]
          simp only [B91_0, b91, Try.f91, Option.getD, fstC, sndC, bodyC, thnC, elsC]
          simp [xI_seq, xI_region, xI_ret, regA, regOps, runOps, opStep, wantedA, opA, evo, evos, calleeA, lk, nif_eq, putE, paramsE, valS, val2, keepE, restrict, finA, resA, binA, binInt, ofConst, ofConst1, loadA, TK.isAgg, asVar, unA, builtinA, lenOpA, lenA, ileb_cast, ileb_eq, ieqb_dec, indexAddrA, inB_dec, evPairs, storeA, AV.cellsOf, pairsOf, xI_nil, binBool, gcE, evOpt, xI_block, xI_loopH, xI_condM, xI_exitM, xI_skip, xI_blk, exitA, ty2, ty3, ty4, ty22, eK91_0_0, hw, hlt, hlt2, lst_read hg, bs22, ha, ha0, hxy, hxy3]
          exact h1
        · have hp : put x (y :: suf) = y :: suf := by simp [put, hxy, hxy2]
          rw [hp]
          simpa using plain true (.inr (.inr ⟨rfl, rfl, hxy, hxy2⟩))
      · have hp : put x (y :: suf) = y :: put x suf := by simp [put, hxy]
        rw [hp]
        simpa using plain false (.inr (.inl ⟨rfl, rfl, hxy⟩))
theorem s91 (l : List Int) (len : Nat) (hlen : len = l.length) (hs : len < 100000) (x : Int) : FnS TT 91 [.lst len (ints l), .int .i64 x] (put x l) := by
  obtain ⟨σ', b', c', h1, ⟨o, h2, _⟩, h3⟩ := l91 l len hlen hs x l [] ((⟨[], 0⟩ : St).push ⟨ints [], 1, false⟩) 0 0 [] false rfl rfl (by simp) Row.push
  refine FnS.mk fn91 rfl md91 ⟨σ', b', o, ?_, by simpa using h2⟩
  have hb := bn22 ⟨[], 0⟩
  have h3 : c' = (put x l).length := by simpa using h3
  rw [← h3]
  rw [fi91] at h1 ⊢
  simp [xI_seq, xI_region, xI_ret, regA, regOps, runOps, opStep, wantedA, opA, evo, evos, calleeA, lk, nif_eq, putE, paramsE, valS, val2, keepE, restrict, finA, resA, binA, binInt, ofConst, ofConst1, loadA, TK.isAgg, asVar, unA, builtinA, lenOpA, lenA, ileb_cast, ileb_eq, ieqb_dec, indexAddrA, inB_dec, evPairs, storeA, AV.cellsOf, pairsOf, xI_nil, binBool, gcE, evOpt, xI_block, xI_loopH, xI_condM, xI_exitM, xI_skip, xI_blk, exitA, ty2, ty3, ty4, ty22, eK91_0_0, hb]
  exact h1

end Go.Proofs.Ytaniaeefijgaiaa
