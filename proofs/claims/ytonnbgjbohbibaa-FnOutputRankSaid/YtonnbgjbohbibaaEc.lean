/- Contracts: what rows make of a state, sums of rows, rows of two steps. Nothing is claimed here; no condition. -/
import Derived.Test.YtonnbgjbohbibaaEb
import Derived.Test.YtonnbgjbohbibaaWx
namespace Go.Proofs.Ytonnbgjbohbibaa
open Go Go.Abs
set_option linter.unusedSimpArgs false
set_option linter.unusedVariables false
open Go.Wd
/-- A value that shows a list of numbers. -/
def IsL (σ : St) (v : AV) (l : List Int) : Prop := v = .lst l.length (ints l) ∨ ∃ b, v = .sl b 0 l.length l.length ∧ Row σ b l
theorem IsL.frz {σ : St} {v : AV} {l : List Int} {d : Nat} (h : IsL σ v l) : frzV σ (d + 2) v = some (.lst l.length (ints l)) := by
  rcases h with rfl | ⟨b, rfl, h⟩
  · rfl
  · exact h.frz rfl (Nat.le_refl _)
theorem IsL.old {σ σ' : St} {v : AV} {l : List Int} (h : IsL σ v l) (k : Old σ σ') : IsL σ' v l := by
  rcases h with rfl | ⟨b, rfl, h⟩
  · exact .inl rfl
  · exact .inr ⟨b, rfl, h.old k⟩
theorem IsL.len {σ : St} {v : AV} {l : List Int} (h : IsL σ v l) : lenA v = some l.length := by
  rcases h with rfl | ⟨b, rfl, h⟩ <;> rfl
theorem IsL.of_row {σ : St} {b n : Nat} {l : List Int} (h : Row σ b l) (hn : n = l.length) : IsL σ (.sl b 0 n n) l := by subst hn; exact .inr ⟨b, rfl, h⟩
theorem nints_append_row {T : Tab} {σ : St} {b n : Nat} {l : List Nat} {x : Nat} {st e : TypeId} (ht : T.ty st = some ⟨.slice e, 1, 24, [.nilS]⟩) (he : T.ty e = some ⟨.int .i64, 1, 8, [.int .i64 0]⟩)
    (hb : Row σ b (nints l)) (hn : n = l.length) (hs : n < 1000000000000) :
    ∃ σ', appendA T (σ.push ⟨[.int .i64 (x : Int)], 1, false⟩) st st (.sl b 0 n n) (.sl σ.n 0 1 1) = some (.sl (σ.n + 1) 0 (n + 1) (n + 1), σ') ∧ Row σ' (σ.n + 1) (nints (l ++ [x])) ∧ σ'.n = σ.n + 2 ∧ ∀ c, c ≠ b → c < σ.n → σ'.get c = σ.get c := by
  rw [nints_append, nints_one]
  exact append_row ht he hb (by rw [nints_length]; exact hn) hs

theorem pow_62 {r : Nat} (h : r < 65536) : r < 2 ^ 62 := Nat.lt_of_lt_of_le h (by decide)
theorem lt_62 {r : Nat} (h : r < 2 ^ 62) : r ≤ 9223372036854775807 := by have : (2 : Nat) ^ 62 ≤ 9223372036854775807 := by decide
                                                                         omega
theorem shrN_shrN (m a : Nat) : shrN m (a + 1) = shrN m a / 2 := by simp only [shrN, Nat.pow_succ, Nat.div_div_eq_div_mul]
theorem xorN_lt {a b : Nat} (ha : a < 2 ^ 62) (hb : b < 2 ^ 62) : xorN a b < 2 ^ 62 := Nat.xor_lt_two_pow ha hb

noncomputable def b134 : Code := Try.f134.body.getD .skip
noncomputable def B134_0 : Code := (bodyC (bodyC (sndC (fstC (sndC (sndC b134))))))
noncomputable def K134_0 : List It := .lp B134_0 :: .blk 0 :: .code (sndC (sndC (sndC b134))) :: []
theorem xl134_0 {fi : FI} {env : Env} {σ : St} : exI TT fi K134_0 env σ = exI TT fi (.code B134_0 :: K134_0) env σ := by unfold K134_0; exact xI_lp
noncomputable def R134_0_0 : List It := .code (sndC (sndC (sndC b134))) :: []
theorem eK134_0_0 : exitA 0 K134_0 = some R134_0_0 := rfl
set_option maxHeartbeats 1000000 in
theorem l134 (R : List Nat) (hR : ∀ r ∈ R, r < 2 ^ 62) (len : Nat) (hlen : len = R.length) (hl64 : len ≤ 64) (m : Nat) (hm : m < 2 ^ 62) (σ : St) : ∀ (suf pre : List Nat) (out : Nat), R = pre ++ suf → out < 2 ^ 62 →
    exI TT (FI.of Try.f134 (TT.an 134)) K134_0 [(1, .int .i64 m), (5, .int .i64 out), (8, .lst len (ints (nints R))), (9, .int .i64 len), (10, .int .i64 pre.length)] σ = some (.int .i64 (xorN out (comb suf (shrN m pre.length)) : Nat), σ) := by
  intro suf
  induction suf with
  | nil =>
    intro pre out hp ho
    have hx : xorN out (comb [] (shrN m pre.length)) = out := by simp [xorN, comb]
    have hl : len = pre.length := by rw [hlen, hp]; simp
    subst hl
    rw [fi134]
    rw [xl134_0]
    simp only [B134_0, b134, Try.f134, Option.getD, fstC, sndC, bodyC, thnC, elsC]
    simp [xI_seq, xI_region, xI_ret, regA, regOps, runOps, opStep, wantedA, opA, evo, evos, calleeA, lk, nif_eq, putE, paramsE, valS, val2, keepE, restrict, finA, resA, binA, binInt, ofConst, ofConst1, loadA, TK.isAgg, asVar, unA, builtinA, lenOpA, lenA, ileb_cast, ileb_eq, ieqb_dec, indexAddrA, inB_dec, evPairs, storeA, AV.cellsOf, pairsOf, xI_nil, binBool, gcE, evOpt, xI_block, xI_loopH, xI_condM, xI_exitM, xI_skip, xI_blk, exitA, ty2, ty3, ty33, eK134_0_0]
    simp only [R134_0_0, b134, Try.f134, Option.getD, fstC, sndC, bodyC, thnC, elsC]
    simp [xI_seq, xI_region, xI_ret, regA, regOps, runOps, opStep, wantedA, opA, evo, evos, calleeA, lk, nif_eq, putE, paramsE, valS, val2, keepE, restrict, finA, resA, binA, binInt, ofConst, ofConst1, loadA, TK.isAgg, asVar, unA, builtinA, lenOpA, lenA, ileb_cast, ileb_eq, ieqb_dec, indexAddrA, inB_dec, evPairs, storeA, AV.cellsOf, pairsOf, xI_nil, binBool, gcE, evOpt, xI_block, xI_loopH, xI_condM, xI_exitM, xI_skip, xI_blk, exitA, ty2, ty3, ty33, eK134_0_0, hx]
  | cons r suf ih =>
    intro pre out hp ho
    have hll : len = pre.length + (suf.length + 1) := by rw [hlen, hp]; simp
    have hr : r < 2 ^ 62 := hR r (by simp [hp])
    have hg : (nints R)[pre.length]? = some (r : Int) := nints_get (by simp [hp])
    have hlt : ¬ len ≤ pre.length := by omega
    have hlt2 : pre.length < len := by omega
    have hw := wrapS (n := pre.length) (by omega)
    have hcu : wrapA .u64 ((pre.length : Nat) : Int) = ((pre.length : Nat) : Int) := n_wrapu (by omega)
    have a1 := sh_r (a := m) (b := pre.length) (by omega)
    have hs1 : shrN m pre.length ≤ m := Nat.div_le_self _ _
    have a2 := n_and1 (a := shrN m pre.length) (lt_62 (by omega))
    have a3 := n_xor (lt_62 ho) (lt_62 hr)
    have hsx : xorN out (comb (r :: suf) (shrN m pre.length)) = if modN (shrN m pre.length) 2 = 1 then xorN (xorN out r) (comb suf (shrN m (pre.length + 1))) else xorN out (comb suf (shrN m (pre.length + 1))) := by
      rw [shrN_shrN]
      show out ^^^ ((if shrN m pre.length % 2 = 1 then r else 0) ^^^ comb suf (shrN m pre.length / 2)) = if shrN m pre.length % 2 = 1 then (out ^^^ r) ^^^ comb suf (shrN m pre.length / 2) else out ^^^ comb suf (shrN m pre.length / 2)
      split <;> simp [Nat.xor_assoc]
    rw [hsx]
    by_cases hb : modN (shrN m pre.length) 2 = 1
    · have hb' : ((modN (shrN m pre.length) 2 : Nat) : Int) = 1 := by omega
      have h1 := ih (pre ++ [r]) (xorN out r) (by simp [hp]) (xorN_lt ho hr)
      simp only [List.length_append, List.length_singleton] at h1
      rw [if_pos hb]
      rw [fi134] at h1 ⊢
      rw [xl134_0]
      simp only [B134_0, b134, Try.f134, Option.getD, fstC, sndC, bodyC, thnC, elsC]
      simp [xI_seq, xI_region, xI_ret, regA, regOps, runOps, opStep, wantedA, opA, evo, evos, calleeA, lk, nif_eq, putE, paramsE, valS, val2, keepE, restrict, finA, resA, binA, binInt, ofConst, ofConst1, loadA, TK.isAgg, asVar, unA, builtinA, lenOpA, lenA, ileb_cast, ileb_eq, ieqb_dec, indexAddrA, inB_dec, evPairs, storeA, AV.cellsOf, pairsOf, xI_nil, binBool, gcE, evOpt, xI_block, xI_loopH, xI_condM, xI_exitM, xI_skip, xI_blk, exitA, ty2, ty3, ty33, eK134_0_0, hw, hlt, hlt2, a1, a2, a3, hb, hb', lst_read hg]
      simpa using h1
    · have hb' : ¬ ((modN (shrN m pre.length) 2 : Nat) : Int) = 1 := by omega
      have h1 := ih (pre ++ [r]) out (by simp [hp]) ho
      simp only [List.length_append, List.length_singleton] at h1
      rw [if_neg hb]
      rw [fi134] at h1 ⊢
      rw [xl134_0]
      simp only [B134_0, b134, Try.f134, Option.getD, fstC, sndC, bodyC, thnC, elsC]
      simp [xI_seq, xI_region, xI_ret, regA, regOps, runOps, opStep, wantedA, opA, evo, evos, calleeA, lk, nif_eq, putE, paramsE, valS, val2, keepE, restrict, finA, resA, binA, binInt, ofConst, ofConst1, loadA, TK.isAgg, asVar, unA, builtinA, lenOpA, lenA, ileb_cast, ileb_eq, ieqb_dec, indexAddrA, inB_dec, evPairs, storeA, AV.cellsOf, pairsOf, xI_nil, binBool, gcE, evOpt, xI_block, xI_loopH, xI_condM, xI_exitM, xI_skip, xI_blk, exitA, ty2, ty3, ty33, eK134_0_0, hw, hlt, hlt2, a1, a2, a3, hb, hb', lst_read hg]
      simpa using h1
theorem v134 (R : List Nat) (hR : ∀ r ∈ R, r < 2 ^ 62) (hl64 : R.length ≤ 64) (m : Nat) (hm : m < 2 ^ 62) : FnV TT 134 [.lst R.length (ints (nints R)), .int .i64 m] (.int .i64 (comb R m : Nat)) := by
  refine FnV.mk fn134 rfl md134 ⟨⟨[], 0⟩, ?_⟩ (fun _ => rfl) rfl
  have h := l134 R hR R.length rfl hl64 m hm ⟨[], 0⟩ R [] 0 rfl (by decide)
  rw [show xorN 0 (comb R (shrN m ([] : List Nat).length)) = comb R m by simp [xorN, shrN]] at h
  rw [← h, fi134]
  simp [xI_seq, xI_region, xI_ret, regA, regOps, runOps, opStep, wantedA, opA, evo, evos, calleeA, lk, nif_eq, putE, paramsE, valS, val2, keepE, restrict, finA, resA, binA, binInt, ofConst, ofConst1, loadA, TK.isAgg, asVar, unA, builtinA, lenOpA, lenA, ileb_cast, ileb_eq, ieqb_dec, indexAddrA, inB_dec, evPairs, storeA, AV.cellsOf, pairsOf, xI_nil, binBool, gcE, evOpt, xI_block, xI_loopH, xI_condM, xI_exitM, xI_skip, xI_blk, exitA, ty2, ty3, ty33, eK134_0_0]
  rfl

noncomputable def b137 : Code := Try.f137.body.getD .skip
noncomputable def B137_0 : Code := (bodyC (bodyC (sndC (fstC (sndC (sndC b137))))))
noncomputable def K137_0 : List It := .lp B137_0 :: .blk 0 :: .code (sndC (sndC (sndC b137))) :: []
theorem xl137_0 {fi : FI} {env : Env} {σ : St} : exI TT fi K137_0 env σ = exI TT fi (.code B137_0 :: K137_0) env σ := by unfold K137_0; exact xI_lp
noncomputable def R137_0_0 : List It := .code (sndC (sndC (sndC b137))) :: []
theorem eK137_0_0 : exitA 0 K137_0 = some R137_0_0 := rfl
set_option maxHeartbeats 1000000 in
theorem l137 (R : List Nat) (hR : ∀ r ∈ R, r < 2 ^ 62) (len : Nat) (hlen : len = R.length) (hl64 : len ≤ 64) (m : Nat) (hm : m < 2 ^ 62) (σ : St) : ∀ (suf pre : List Nat) (out : Nat), R = pre ++ suf → out < 2 ^ 62 →
    exI TT (FI.of Try.f137 (TT.an 137)) K137_0 [(0, .int .i64 m), (1, .lst len (ints (nints R))), (5, .int .i64 out), (6, .int .i64 pre.length)] σ = some (.int .i64 (xorN out (comb suf (shrN m pre.length)) : Nat), σ) := by
  intro suf
  induction suf with
  | nil =>
    intro pre out hp ho
    have hx : xorN out (comb [] (shrN m pre.length)) = out := by simp [xorN, comb]
    have hl : len = pre.length := by rw [hlen, hp]; simp
    subst hl
    rw [fi137]
    rw [xl137_0]
    simp only [B137_0, b137, Try.f137, Option.getD, fstC, sndC, bodyC, thnC, elsC]
    simp [xI_seq, xI_region, xI_ret, regA, regOps, runOps, opStep, wantedA, opA, evo, evos, calleeA, lk, nif_eq, putE, paramsE, valS, val2, keepE, restrict, finA, resA, binA, binInt, ofConst, ofConst1, loadA, TK.isAgg, asVar, unA, builtinA, lenOpA, lenA, ileb_cast, ileb_eq, ieqb_dec, indexAddrA, inB_dec, evPairs, storeA, AV.cellsOf, pairsOf, xI_nil, binBool, gcE, evOpt, xI_block, xI_loopH, xI_condM, xI_exitM, xI_skip, xI_blk, exitA, ty2, ty3, ty33, ty73, eK137_0_0]
    simp only [R137_0_0, b137, Try.f137, Option.getD, fstC, sndC, bodyC, thnC, elsC]
    simp [xI_seq, xI_region, xI_ret, regA, regOps, runOps, opStep, wantedA, opA, evo, evos, calleeA, lk, nif_eq, putE, paramsE, valS, val2, keepE, restrict, finA, resA, binA, binInt, ofConst, ofConst1, loadA, TK.isAgg, asVar, unA, builtinA, lenOpA, lenA, ileb_cast, ileb_eq, ieqb_dec, indexAddrA, inB_dec, evPairs, storeA, AV.cellsOf, pairsOf, xI_nil, binBool, gcE, evOpt, xI_block, xI_loopH, xI_condM, xI_exitM, xI_skip, xI_blk, exitA, ty2, ty3, ty33, ty73, eK137_0_0, hx]
  | cons r suf ih =>
    intro pre out hp ho
    have hll : len = pre.length + (suf.length + 1) := by rw [hlen, hp]; simp
    have hr : r < 2 ^ 62 := hR r (by simp [hp])
    have hg : (nints R)[pre.length]? = some (r : Int) := nints_get (by simp [hp])
    have hlt : ¬ len ≤ pre.length := by omega
    have hlt2 : pre.length < len := by omega
    have hw := wrapS (n := pre.length) (by omega)
    have hcu : wrapA .u64 ((pre.length : Nat) : Int) = ((pre.length : Nat) : Int) := n_wrapu (by omega)
    have a1 := sh_r (a := m) (b := pre.length) (by omega)
    have hs1 : shrN m pre.length ≤ m := Nat.div_le_self _ _
    have a2 := n_and1 (a := shrN m pre.length) (lt_62 (by omega))
    have a3 := n_xor (lt_62 ho) (lt_62 hr)
    have hsx : xorN out (comb (r :: suf) (shrN m pre.length)) = if modN (shrN m pre.length) 2 = 1 then xorN (xorN out r) (comb suf (shrN m (pre.length + 1))) else xorN out (comb suf (shrN m (pre.length + 1))) := by
      rw [shrN_shrN]
      show out ^^^ ((if shrN m pre.length % 2 = 1 then r else 0) ^^^ comb suf (shrN m pre.length / 2)) = if shrN m pre.length % 2 = 1 then (out ^^^ r) ^^^ comb suf (shrN m pre.length / 2) else out ^^^ comb suf (shrN m pre.length / 2)
      split <;> simp [Nat.xor_assoc]
    rw [hsx]
    by_cases hb : modN (shrN m pre.length) 2 = 1
    · have hb' : ((modN (shrN m pre.length) 2 : Nat) : Int) = 1 := by omega
      have h1 := ih (pre ++ [r]) (xorN out r) (by simp [hp]) (xorN_lt ho hr)
      simp only [List.length_append, List.length_singleton] at h1
      rw [if_pos hb]
      rw [fi137] at h1 ⊢
      rw [xl137_0]
      simp only [B137_0, b137, Try.f137, Option.getD, fstC, sndC, bodyC, thnC, elsC]
      simp [xI_seq, xI_region, xI_ret, regA, regOps, runOps, opStep, wantedA, opA, evo, evos, calleeA, lk, nif_eq, putE, paramsE, valS, val2, keepE, restrict, finA, resA, binA, binInt, ofConst, ofConst1, loadA, TK.isAgg, asVar, unA, builtinA, lenOpA, lenA, ileb_cast, ileb_eq, ieqb_dec, indexAddrA, inB_dec, evPairs, storeA, AV.cellsOf, pairsOf, xI_nil, binBool, gcE, evOpt, xI_block, xI_loopH, xI_condM, xI_exitM, xI_skip, xI_blk, exitA, ty2, ty3, ty33, ty73, eK137_0_0, hw, hlt, hlt2, a1, a2, a3, hb, hb', lst_read hg, hcu, convA]
      simpa using h1
    · have hb' : ¬ ((modN (shrN m pre.length) 2 : Nat) : Int) = 1 := by omega
      have h1 := ih (pre ++ [r]) out (by simp [hp]) ho
      simp only [List.length_append, List.length_singleton] at h1
      rw [if_neg hb]
      rw [fi137] at h1 ⊢
      rw [xl137_0]
      simp only [B137_0, b137, Try.f137, Option.getD, fstC, sndC, bodyC, thnC, elsC]
      simp [xI_seq, xI_region, xI_ret, regA, regOps, runOps, opStep, wantedA, opA, evo, evos, calleeA, lk, nif_eq, putE, paramsE, valS, val2, keepE, restrict, finA, resA, binA, binInt, ofConst, ofConst1, loadA, TK.isAgg, asVar, unA, builtinA, lenOpA, lenA, ileb_cast, ileb_eq, ieqb_dec, indexAddrA, inB_dec, evPairs, storeA, AV.cellsOf, pairsOf, xI_nil, binBool, gcE, evOpt, xI_block, xI_loopH, xI_condM, xI_exitM, xI_skip, xI_blk, exitA, ty2, ty3, ty33, ty73, eK137_0_0, hw, hlt, hlt2, a1, a2, a3, hb, hb', lst_read hg, hcu, convA]
      simpa using h1
theorem v137 (R : List Nat) (hR : ∀ r ∈ R, r < 2 ^ 62) (hl64 : R.length ≤ 64) (m : Nat) (hm : m < 2 ^ 62) : FnV TT 137 [.int .i64 m, .lst R.length (ints (nints R))] (.int .i64 (comb R m : Nat)) := by
  refine FnV.mk fn137 rfl md137 ⟨⟨[], 0⟩, ?_⟩ (fun _ => rfl) rfl
  have h := l137 R hR R.length rfl hl64 m hm ⟨[], 0⟩ R [] 0 rfl (by decide)
  rw [show xorN 0 (comb R (shrN m ([] : List Nat).length)) = comb R m by simp [xorN, shrN]] at h
  rw [← h, fi137]
  simp [xI_seq, xI_region, xI_ret, regA, regOps, runOps, opStep, wantedA, opA, evo, evos, calleeA, lk, nif_eq, putE, paramsE, valS, val2, keepE, restrict, finA, resA, binA, binInt, ofConst, ofConst1, loadA, TK.isAgg, asVar, unA, builtinA, lenOpA, lenA, ileb_cast, ileb_eq, ieqb_dec, indexAddrA, inB_dec, evPairs, storeA, AV.cellsOf, pairsOf, xI_nil, binBool, gcE, evOpt, xI_block, xI_loopH, xI_condM, xI_exitM, xI_skip, xI_blk, exitA, ty2, ty3, ty33, ty73, eK137_0_0]
  rfl

noncomputable def b99 : Code := Try.f99.body.getD .skip
noncomputable def B99_0 : Code := (bodyC (bodyC (sndC (fstC (sndC (sndC b99))))))
noncomputable def K99_0 : List It := .lp B99_0 :: .blk 0 :: .code (sndC (sndC (sndC b99))) :: []
theorem xl99_0 {fi : FI} {env : Env} {σ : St} : exI TT fi K99_0 env σ = exI TT fi (.code B99_0 :: K99_0) env σ := by unfold K99_0; exact xI_lp
noncomputable def R99_0_0 : List It := .code (sndC (sndC (sndC b99))) :: []
theorem eK99_0_0 : exitA 0 K99_0 = some R99_0_0 := rfl
set_option maxHeartbeats 1000000 in
theorem l99 (R : List Nat) (hR : ∀ r ∈ R, r < 65536) (len : Nat) (hlen : len = R.length) (hl16 : len ≤ 16) (s : Nat) (hs : s < 2 ^ 62) (σ : St) : ∀ (suf pre : List Nat) (out : Nat), R = pre ++ suf → out < 2 ^ pre.length →
    exI TT (FI.of Try.f99 (TT.an 99)) K99_0 [(1, .int .i64 s), (5, .int .i64 out), (8, .lst len (ints (nints R))), (9, .int .i64 len), (10, .int .i64 pre.length)] σ = some (.int .i64 (addN out (mulN (pw pre.length) (app suf s)) : Nat), σ) := by
  intro suf
  induction suf with
  | nil =>
    intro pre out hp ho
    have hx : addN out (mulN (pw pre.length) (app [] s)) = out := by simp [addN, mulN, app]
    have hl : len = pre.length := by rw [hlen, hp]; simp
    subst hl
    rw [fi99]
    rw [xl99_0]
    simp only [B99_0, b99, Try.f99, Option.getD, fstC, sndC, bodyC, thnC, elsC]
    simp [xI_seq, xI_region, xI_ret, regA, regOps, runOps, opStep, wantedA, opA, evo, evos, calleeA, lk, nif_eq, putE, paramsE, valS, val2, keepE, restrict, finA, resA, binA, binInt, ofConst, ofConst1, loadA, TK.isAgg, asVar, unA, builtinA, lenOpA, lenA, ileb_cast, ileb_eq, ieqb_dec, indexAddrA, inB_dec, evPairs, storeA, AV.cellsOf, pairsOf, xI_nil, binBool, gcE, evOpt, xI_block, xI_loopH, xI_condM, xI_exitM, xI_skip, xI_blk, exitA, ty2, ty3, ty33, eK99_0_0]
    simp only [R99_0_0, b99, Try.f99, Option.getD, fstC, sndC, bodyC, thnC, elsC]
    simp [xI_seq, xI_region, xI_ret, regA, regOps, runOps, opStep, wantedA, opA, evo, evos, calleeA, lk, nif_eq, putE, paramsE, valS, val2, keepE, restrict, finA, resA, binA, binInt, ofConst, ofConst1, loadA, TK.isAgg, asVar, unA, builtinA, lenOpA, lenA, ileb_cast, ileb_eq, ieqb_dec, indexAddrA, inB_dec, evPairs, storeA, AV.cellsOf, pairsOf, xI_nil, binBool, gcE, evOpt, xI_block, xI_loopH, xI_condM, xI_exitM, xI_skip, xI_blk, exitA, ty2, ty3, ty33, eK99_0_0, hx]
  | cons r suf ih =>
    intro pre out hp ho
    have hll : len = pre.length + (suf.length + 1) := by rw [hlen, hp]; simp
    have hr : r < 65536 := hR r (by simp [hp])
    have hrs : andN r s < 65536 := Nat.lt_of_le_of_lt Nat.and_le_left hr
    have hg : (nints R)[pre.length]? = some (r : Int) := nints_get (by simp [hp])
    have hlt : ¬ len ≤ pre.length := by omega
    have hlt2 : pre.length < len := by omega
    have hw := wrapS (n := pre.length) (by omega)
    have hcu : wrapA .u64 ((pre.length : Nat) : Int) = ((pre.length : Nat) : Int) := n_wrapu (by omega)
    have h16 : 2 ^ pre.length ≤ 2 ^ 16 := Nat.pow_le_pow_right (by decide) (by omega)
    have a1 := n_and (a := r) (b := s) (by omega) (lt_62 hs)
    have a2 := c100 (andN r s) hrs σ
    have hpl := par_lt (andN r s)
    have hps : par (andN r s) * 2 ^ pre.length ≤ 1 * 2 ^ pre.length := Nat.mul_le_mul_right _ (by omega)
    have a3 := sh_l (a := par (andN r s)) (b := pre.length) (by omega) (by omega)
    have a4 := n_or (a := out) (b := shlN (par (andN r s)) pre.length) (by omega) (by show par (andN r s) * 2 ^ pre.length ≤ _; omega)
    have e1 : orN out (shlN (par (andN r s)) pre.length) = out + 2 ^ pre.length * par (andN r s) := or_shift ho
    have e2 : orN out (shlN (par (andN r s)) pre.length) < 2 ^ (pre ++ [r]).length := by
      rw [e1, List.length_append, List.length_singleton, Nat.pow_succ, Nat.mul_comm]; omega
    have h1 := ih (pre ++ [r]) _ (by simp [hp]) e2
    rw [show addN (orN out (shlN (par (andN r s)) pre.length)) (mulN (pw (pre ++ [r]).length) (app suf s)) = addN out (mulN (pw pre.length) (app (r :: suf) s)) by
      rw [e1]; show _ + 2 ^ (pre ++ [r]).length * app suf s = out + 2 ^ pre.length * (par (r &&& s) + 2 * app suf s)
      rw [List.length_append, List.length_singleton, Nat.pow_succ, Nat.mul_add, Nat.mul_assoc, Nat.add_assoc]; rfl] at h1
    simp only [List.length_append, List.length_singleton] at h1
    rw [fi99] at h1 ⊢
    rw [xl99_0]
    simp only [B99_0, b99, Try.f99, Option.getD, fstC, sndC, bodyC, thnC, elsC]
    simp [xI_seq, xI_region, xI_ret, regA, regOps, runOps, opStep, wantedA, opA, evo, evos, calleeA, lk, nif_eq, putE, paramsE, valS, val2, keepE, restrict, finA, resA, binA, binInt, ofConst, ofConst1, loadA, TK.isAgg, asVar, unA, builtinA, lenOpA, lenA, ileb_cast, ileb_eq, ieqb_dec, indexAddrA, inB_dec, evPairs, storeA, AV.cellsOf, pairsOf, xI_nil, binBool, gcE, evOpt, xI_block, xI_loopH, xI_condM, xI_exitM, xI_skip, xI_blk, exitA, ty2, ty3, ty33, eK99_0_0, hw, hlt, hlt2, a1, a2, a3, a4, lst_read hg]
    simpa using h1
theorem v99 (R : List Nat) (hR : ∀ r ∈ R, r < 65536) (hl16 : R.length ≤ 16) (s : Nat) (hs : s < 2 ^ 62) : FnV TT 99 [.lst R.length (ints (nints R)), .int .i64 s] (.int .i64 (app R s : Nat)) := by
  refine FnV.mk fn99 rfl md99 ⟨⟨[], 0⟩, ?_⟩ (fun _ => rfl) rfl
  have h := l99 R hR R.length rfl hl16 s hs ⟨[], 0⟩ R [] 0 rfl (by decide)
  rw [show addN 0 (mulN (pw ([] : List Nat).length) (app R s)) = app R s by simp [addN, mulN, pw]] at h
  rw [← h, fi99]
  simp [xI_seq, xI_region, xI_ret, regA, regOps, runOps, opStep, wantedA, opA, evo, evos, calleeA, lk, nif_eq, putE, paramsE, valS, val2, keepE, restrict, finA, resA, binA, binInt, ofConst, ofConst1, loadA, TK.isAgg, asVar, unA, builtinA, lenOpA, lenA, ileb_cast, ileb_eq, ieqb_dec, indexAddrA, inB_dec, evPairs, storeA, AV.cellsOf, pairsOf, xI_nil, binBool, gcE, evOpt, xI_block, xI_loopH, xI_condM, xI_exitM, xI_skip, xI_blk, exitA, ty2, ty3, ty33, eK99_0_0]
  rfl

noncomputable def b108 : Code := Try.f108.body.getD .skip
noncomputable def B108_0 : Code := (bodyC (bodyC (sndC (fstC (sndC (sndC b108))))))
noncomputable def K108_0 : List It := .lp B108_0 :: .blk 0 :: .code (sndC (sndC (sndC b108))) :: []
theorem xl108_0 {fi : FI} {env : Env} {σ : St} : exI TT fi K108_0 env σ = exI TT fi (.code B108_0 :: K108_0) env σ := by unfold K108_0; exact xI_lp
noncomputable def R108_0_0 : List It := .code (sndC (sndC (sndC b108))) :: []
theorem eK108_0_0 : exitA 0 K108_0 = some R108_0_0 := rfl
set_option maxHeartbeats 1000000 in
theorem l108 (R : List Nat) (hR : ∀ r ∈ R, r < 65536) (len : Nat) (hlen : len = R.length) (hl16 : len ≤ 16) (s : Nat) (hs : s < 2 ^ 62) (σ : St) : ∀ (suf pre : List Nat) (out : Nat), R = pre ++ suf → out < 2 ^ pre.length →
    exI TT (FI.of Try.f108 (TT.an 108)) K108_0 [(0, .lst len (ints (nints R))), (1, .int .i64 s), (5, .int .i64 out), (6, .int .i64 pre.length)] σ = some (.int .i64 (addN out (mulN (pw pre.length) (app suf s)) : Nat), σ) := by
  intro suf
  induction suf with
  | nil =>
    intro pre out hp ho
    have hx : addN out (mulN (pw pre.length) (app [] s)) = out := by simp [addN, mulN, app]
    have hl : len = pre.length := by rw [hlen, hp]; simp
    subst hl
    rw [fi108]
    rw [xl108_0]
    simp only [B108_0, b108, Try.f108, Option.getD, fstC, sndC, bodyC, thnC, elsC]
    simp [xI_seq, xI_region, xI_ret, regA, regOps, runOps, opStep, wantedA, opA, evo, evos, calleeA, lk, nif_eq, putE, paramsE, valS, val2, keepE, restrict, finA, resA, binA, binInt, ofConst, ofConst1, loadA, TK.isAgg, asVar, unA, builtinA, lenOpA, lenA, ileb_cast, ileb_eq, ieqb_dec, indexAddrA, inB_dec, evPairs, storeA, AV.cellsOf, pairsOf, xI_nil, binBool, gcE, evOpt, xI_block, xI_loopH, xI_condM, xI_exitM, xI_skip, xI_blk, exitA, ty2, ty3, ty33, ty73, eK108_0_0]
    simp only [R108_0_0, b108, Try.f108, Option.getD, fstC, sndC, bodyC, thnC, elsC]
    simp [xI_seq, xI_region, xI_ret, regA, regOps, runOps, opStep, wantedA, opA, evo, evos, calleeA, lk, nif_eq, putE, paramsE, valS, val2, keepE, restrict, finA, resA, binA, binInt, ofConst, ofConst1, loadA, TK.isAgg, asVar, unA, builtinA, lenOpA, lenA, ileb_cast, ileb_eq, ieqb_dec, indexAddrA, inB_dec, evPairs, storeA, AV.cellsOf, pairsOf, xI_nil, binBool, gcE, evOpt, xI_block, xI_loopH, xI_condM, xI_exitM, xI_skip, xI_blk, exitA, ty2, ty3, ty33, ty73, eK108_0_0, hx]
  | cons r suf ih =>
    intro pre out hp ho
    have hll : len = pre.length + (suf.length + 1) := by rw [hlen, hp]; simp
    have hr : r < 65536 := hR r (by simp [hp])
    have hrs : andN r s < 65536 := Nat.lt_of_le_of_lt Nat.and_le_left hr
    have hg : (nints R)[pre.length]? = some (r : Int) := nints_get (by simp [hp])
    have hlt : ¬ len ≤ pre.length := by omega
    have hlt2 : pre.length < len := by omega
    have hw := wrapS (n := pre.length) (by omega)
    have hcu : wrapA .u64 ((pre.length : Nat) : Int) = ((pre.length : Nat) : Int) := n_wrapu (by omega)
    have h16 : 2 ^ pre.length ≤ 2 ^ 16 := Nat.pow_le_pow_right (by decide) (by omega)
    have a1 := n_and (a := r) (b := s) (by omega) (lt_62 hs)
    have a2 := v135 (andN r s) (Nat.lt_of_lt_of_le hrs (by decide)) σ [.int .i64 ((andN r s : Nat) : Int)] rfl
    have hpl := par_lt (andN r s)
    have hps : par (andN r s) * 2 ^ pre.length ≤ 1 * 2 ^ pre.length := Nat.mul_le_mul_right _ (by omega)
    have a3 := sh_l (a := par (andN r s)) (b := pre.length) (by omega) (by omega)
    have a4 := n_or (a := out) (b := shlN (par (andN r s)) pre.length) (by omega) (by show par (andN r s) * 2 ^ pre.length ≤ _; omega)
    have e1 : orN out (shlN (par (andN r s)) pre.length) = out + 2 ^ pre.length * par (andN r s) := or_shift ho
    have e2 : orN out (shlN (par (andN r s)) pre.length) < 2 ^ (pre ++ [r]).length := by
      rw [e1, List.length_append, List.length_singleton, Nat.pow_succ, Nat.mul_comm]; omega
    have h1 := ih (pre ++ [r]) _ (by simp [hp]) e2
    rw [show addN (orN out (shlN (par (andN r s)) pre.length)) (mulN (pw (pre ++ [r]).length) (app suf s)) = addN out (mulN (pw pre.length) (app (r :: suf) s)) by
      rw [e1]; show _ + 2 ^ (pre ++ [r]).length * app suf s = out + 2 ^ pre.length * (par (r &&& s) + 2 * app suf s)
      rw [List.length_append, List.length_singleton, Nat.pow_succ, Nat.mul_add, Nat.mul_assoc, Nat.add_assoc]; rfl] at h1
    simp only [List.length_append, List.length_singleton] at h1
    rw [fi108] at h1 ⊢
    rw [xl108_0]
    simp only [B108_0, b108, Try.f108, Option.getD, fstC, sndC, bodyC, thnC, elsC]
    simp [xI_seq, xI_region, xI_ret, regA, regOps, runOps, opStep, wantedA, opA, evo, evos, calleeA, lk, nif_eq, putE, paramsE, valS, val2, keepE, restrict, finA, resA, binA, binInt, ofConst, ofConst1, loadA, TK.isAgg, asVar, unA, builtinA, lenOpA, lenA, ileb_cast, ileb_eq, ieqb_dec, indexAddrA, inB_dec, evPairs, storeA, AV.cellsOf, pairsOf, xI_nil, binBool, gcE, evOpt, xI_block, xI_loopH, xI_condM, xI_exitM, xI_skip, xI_blk, exitA, ty2, ty3, ty33, ty73, eK108_0_0, hw, hlt, hlt2, a1, a2, a3, a4, lst_read hg, hcu, convA]
    simpa using h1
theorem v108 (R : List Nat) (hR : ∀ r ∈ R, r < 65536) (hl16 : R.length ≤ 16) (s : Nat) (hs : s < 2 ^ 62) : FnV TT 108 [.lst R.length (ints (nints R)), .int .i64 s] (.int .i64 (app R s : Nat)) := by
  refine FnV.mk fn108 rfl md108 ⟨⟨[], 0⟩, ?_⟩ (fun _ => rfl) rfl
  have h := l108 R hR R.length rfl hl16 s hs ⟨[], 0⟩ R [] 0 rfl (by decide)
  rw [show addN 0 (mulN (pw ([] : List Nat).length) (app R s)) = app R s by simp [addN, mulN, pw]] at h
  rw [← h, fi108]
  simp [xI_seq, xI_region, xI_ret, regA, regOps, runOps, opStep, wantedA, opA, evo, evos, calleeA, lk, nif_eq, putE, paramsE, valS, val2, keepE, restrict, finA, resA, binA, binInt, ofConst, ofConst1, loadA, TK.isAgg, asVar, unA, builtinA, lenOpA, lenA, ileb_cast, ileb_eq, ieqb_dec, indexAddrA, inB_dec, evPairs, storeA, AV.cellsOf, pairsOf, xI_nil, binBool, gcE, evOpt, xI_block, xI_loopH, xI_condM, xI_exitM, xI_skip, xI_blk, exitA, ty2, ty3, ty33, ty73, eK108_0_0]
  rfl

end Go.Proofs.Ytonnbgjbohbibaa
