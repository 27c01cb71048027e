/- Contracts: orders of ranks. Nothing is claimed here; no condition. -/
import Derived.Test.YtaniaeefijgaiaaCe
namespace Go.Proofs.Ytaniaeefijgaiaa
open Go Go.Abs
set_option linter.unusedSimpArgs false
set_option linter.unusedVariables false
def fac : Nat → Nat
  | 0 => 1
  | n + 1 => (n + 1) * fac n
theorem fac_pos : ∀ n : Nat, 0 < fac n
  | 0 => by decide
  | n + 1 => Nat.mul_pos (by omega) (fac_pos n)
theorem fac_le {n : Nat} (h : n ≤ 12) : fac n ≤ 479001600 := by
  have : n = 0 ∨ n = 1 ∨ n = 2 ∨ n = 3 ∨ n = 4 ∨ n = 5 ∨ n = 6 ∨ n = 7 ∨ n = 8 ∨ n = 9 ∨ n = 10 ∨ n = 11 ∨ n = 12 := by omega
  rcases this with rfl | rfl | rfl | rfl | rfl | rfl | rfl | rfl | rfl | rfl | rfl | rfl | rfl <;> decide
theorem Row.frzP {σ : St} {b : Nat} {l junk : List Int} {d n c : Nat} (h : Row σ b (l ++ junk)) (hn : n = l.length) (hc : n ≤ c) : frzV σ (d + 2) (.sl b 0 n c) = some (.lst n (ints l)) := by
  obtain ⟨o, hg, _⟩ := h
  subst hn
  unfold frzV
  have : getCells (ints (l ++ junk)) 0 l.length = some (ints l) := by
    rw [getCells_part (by simp)]; simp
  simp only [hg, Nat.mul_one, this, frz_ints, hc, if_true]
theorem store_many {σ : St} {b i : Nat} {l nl : List Int} (hb : Row σ b l) (h : i + nl.length ≤ l.length) :
    ∃ σ', storeCellsA σ b i (ints nl) = some σ' ∧ Row σ' b (l.take i ++ nl ++ l.drop (i + nl.length)) ∧ But b σ σ' := by
  obtain ⟨o, hg, hlt⟩ := hb
  refine ⟨σ.set b ⟨ints (l.take i ++ nl ++ l.drop (i + nl.length)), 1, o⟩, ?_, ⟨o, get_set_eq hg, hlt⟩, rfl, fun c hc => get_set_ne (fun e => hc e.symm)⟩
  rw [storeCellsA_eq, hg]
  simp only [ints_length]
  rw [if_pos ⟨h, allOne_ints nl⟩]
  have : putCells (ints l) i (ints nl) = ints (l.take i ++ nl ++ l.drop (i + nl.length)) := by
    simp [putCells, ints, List.map_take, List.map_drop]
  rw [this]
/-- An append of some numbers into the room of a row. -/
theorem append_in {T : Tab} {σ : St} {b i c k : Nat} {l nl : List Int} {x : AV} {st e : TypeId} (ht : T.ty st = some ⟨.slice e, 1, 24, [.nilS]⟩) (he : T.ty e = some ⟨.int .i64, 1, 8, [.int .i64 0]⟩)
    (hb : Row σ b l) (hc : c = l.length) (hk : k = nl.length) (hik : i + k ≤ c) (hx : lenA x = some k) (hf : firstA σ 1 k x = some (ints nl)) :
    ∃ σ', appendA T σ st st (.sl b 0 i c) x = some (.sl b 0 (i + k) c, σ') ∧ Row σ' b (l.take i ++ nl ++ l.drop (i + k)) ∧ But b σ σ' := by
  obtain ⟨σ', h1, h2, h3⟩ := store_many (i := i) (nl := nl) hb (by omega)
  refine ⟨σ', ?_, by rw [hk]; exact h2, h3⟩
  unfold appendA
  simp only [ht, he, hx, hf, Nat.mul_one, Nat.zero_add, h1]
  rw [if_neg (by rw [allOne_ints]; simp), if_pos hik]
/-- An append of some numbers to a full row. -/
theorem append_many {T : Tab} {σ : St} {b n k : Nat} {l nl : List Int} {x : AV} {st e : TypeId} (ht : T.ty st = some ⟨.slice e, 1, 24, [.nilS]⟩) (he : T.ty e = some ⟨.int .i64, 1, 8, [.int .i64 0]⟩)
    (hb : Row σ b l) (hn : n = l.length) (hk : k = nl.length) (hx : lenA x = some k) (hf : firstA σ 1 k x = some (ints nl)) (hs : n + k < 1000000000000) :
    ∃ b' σ', appendA T σ st st (.sl b 0 n n) x = some (.sl b' 0 (n + k) (n + k), σ') ∧ Row σ' b' (l ++ nl) ∧ σ.n ≤ σ'.n ∧ (b' = b ∨ b' = σ.n) ∧ ∀ c, c ≠ b → c < σ.n → σ'.get c = σ.get c := by
  by_cases h0 : k = 0
  · subst h0
    obtain ⟨σ', h1, h2, h3⟩ := append_in (i := n) (c := n) (k := 0) ht he hb hn hk (by omega) hx hf
    have : nl = [] := List.length_eq_zero_iff.1 hk.symm
    subst this
    refine ⟨b, σ', by simpa using h1, ?_, Nat.le_of_eq h3.1.symm, .inl rfl, fun c hc _ => h3.2 c hc⟩
    have e1 : l.take n = l := List.take_of_length_le (by omega)
    have e2 : l.drop (n + 0) = [] := List.drop_of_length_le (by omega)
    rw [e1, e2] at h2
    simpa using h2
  · obtain ⟨o, hg, hlt⟩ := hb
    refine ⟨σ.n, (if o then σ.del b else σ).push ⟨ints (l ++ nl), 1, true⟩, ?_, ?_, ?_, .inr rfl, ?_⟩
    · unfold appendA
      simp only [ht, he, hx, hf, hg, Nat.mul_one, getCells_full hn, ints_length]
      rw [if_neg (by rw [allOne_ints]; simp), if_neg (by omega), if_pos ⟨by omega, by omega, trivial, by omega, by omega⟩]
      cases o <;> simp [ints]
    · cases o
      · exact Row.push
      · exact Row.push (σ := σ.del b)
    · cases o <;> exact Nat.le_succ _
    · intro c hc hcn
      cases o
      · exact get_push_lt hcn
      · exact (get_push_lt (σ := σ.del b) hcn).trans (get_del_ne (fun e => hc e.symm))

noncomputable def b74 : Code := Try.f74.body.getD .skip
noncomputable def B74_0 : Code := (bodyC (bodyC (sndC (fstC (sndC (sndC b74))))))
noncomputable def K74_0 : List It := .lp B74_0 :: .blk 0 :: .code (sndC (sndC (sndC b74))) :: []
theorem xl74_0 {fi : FI} {env : Env} {σ : St} : exI TT fi K74_0 env σ = exI TT fi (.code B74_0 :: K74_0) env σ := by unfold K74_0; exact xI_lp
noncomputable def R74_0_0 : List It := .code (sndC (sndC (sndC b74))) :: []
theorem eK74_0_0 : exitA 0 K74_0 = some R74_0_0 := rfl
theorem l74 (n : Nat) (hn : n ≤ 12) (σ : St) : ∀ (m j : Nat), 1 ≤ j → j ≤ 12 → (j + m = n ∨ (m = 0 ∧ n ≤ j)) → exI TT (FI.of Try.f74 (TT.an 74)) K74_0 [(0, .int .i64 n), (3, .int .i64 (fac j)), (4, .int .i64 (j + 1 : Nat))] σ = some (.int .i64 (fac (j + m)), σ) := by
  intro m
  induction m with
  | zero =>
    intro j hj hj12 hjn
    have hle : ¬ (j : Int) + 1 ≤ n := by omega
    rw [Nat.add_zero, show ((j + 1 : Nat) : Int) = (j : Int) + 1 by omega]
    generalize fac j = z
    rw [fi74]
    rw [xl74_0]
    simp only [B74_0, b74, Try.f74, Option.getD, fstC, sndC, bodyC, thnC, elsC]
    simp [xI_seq, xI_region, xI_ret, regA, regOps, runOps, opStep, wantedA, opA, evo, evos, calleeA, lk, nif_eq, putE, paramsE, valS, val2, keepE, restrict, finA, resA, binA, binInt, ofConst, ofConst1, loadA, TK.isAgg, asVar, unA, builtinA, lenOpA, lenA, ileb_cast, ileb_eq, ieqb_dec, indexAddrA, inB_dec, evPairs, storeA, AV.cellsOf, pairsOf, xI_nil, binBool, gcE, evOpt, xI_block, xI_loopH, xI_condM, xI_exitM, xI_skip, xI_blk, exitA, ty2, eK74_0_0, hle]
    simp only [R74_0_0, b74, Try.f74, Option.getD, fstC, sndC, bodyC, thnC, elsC]
    simp [xI_seq, xI_region, xI_ret, regA, regOps, runOps, opStep, wantedA, opA, evo, evos, calleeA, lk, nif_eq, putE, paramsE, valS, val2, keepE, restrict, finA, resA, binA, binInt, ofConst, ofConst1, loadA, TK.isAgg, asVar, unA, builtinA, lenOpA, lenA, ileb_cast, ileb_eq, ieqb_dec, indexAddrA, inB_dec, evPairs, storeA, AV.cellsOf, pairsOf, xI_nil, binBool, gcE, evOpt, xI_block, xI_loopH, xI_condM, xI_exitM, xI_skip, xI_blk, exitA, ty2, eK74_0_0]
  | succ m ih =>
    intro j hj hj12 hjn
    have h1 := ih (j + 1) (by omega) (by omega) (by omega)
    have hle : (j : Int) + 1 ≤ n := by omega
    have hw : wrapA .i64 ((j : Int) + 1 + 1) = (j : Int) + 1 + 1 := wrapA_id (by omega) (by omega)
    have hf := fac_le (n := j + 1) (by omega)
    have hm : wrapA .i64 ((fac j : Int) * ((j : Int) + 1)) = fac (j + 1) := by
      have e : (fac j : Int) * ((j : Int) + 1) = (fac (j + 1) : Nat) := by
        rw [show fac (j + 1) = (j + 1) * fac j from rfl, Int.natCast_mul, Int.mul_comm]; simp
      rw [e, wrapA_id (by omega) (by omega)]
    rw [show j + (m + 1) = j + 1 + m by omega, show ((j + 1 : Nat) : Int) = (j : Int) + 1 by omega]
    rw [show ((j + 1 + 1 : Nat) : Int) = (j : Int) + 1 + 1 by omega] at h1
    generalize fac (j + 1) = z at *
    generalize fac j = y at *
    generalize fac (j + 1 + m) = r at *
    rw [fi74] at h1 ⊢
    rw [xl74_0]
    simp only [B74_0, b74, Try.f74, Option.getD, fstC, sndC, bodyC, thnC, elsC]
    simp [xI_seq, xI_region, xI_ret, regA, regOps, runOps, opStep, wantedA, opA, evo, evos, calleeA, lk, nif_eq, putE, paramsE, valS, val2, keepE, restrict, finA, resA, binA, binInt, ofConst, ofConst1, loadA, TK.isAgg, asVar, unA, builtinA, lenOpA, lenA, ileb_cast, ileb_eq, ieqb_dec, indexAddrA, inB_dec, evPairs, storeA, AV.cellsOf, pairsOf, xI_nil, binBool, gcE, evOpt, xI_block, xI_loopH, xI_condM, xI_exitM, xI_skip, xI_blk, exitA, ty2, eK74_0_0, hle, hw, hm]
    exact h1
theorem c74 (n : Nat) (hn : n ≤ 12) (σ : St) : callI TT 74 [.int .i64 n] σ = some (.int .i64 (fac n), σ) := by
  refine (FnV.mk (args' := [.int .i64 n]) fn74 rfl md74 ⟨⟨[], 0⟩, ?_⟩ (fun _ => rfl) rfl) σ _ rfl
  have h1 := l74 n hn ⟨[], 0⟩ (n - 1) 1 (by omega) (by omega) (by omega)
  have he : fac (1 + (n - 1)) = fac n := by
    cases n with
    | zero => rfl
    | succ n => rw [show 1 + (n + 1 - 1) = n + 1 by omega]
  rw [he] at h1
  have h2 : exI TT (FI.of Try.f74 (TT.an 74)) K74_0 [(0, .int .i64 n), (3, .int .i64 1), (4, .int .i64 2)] ⟨[], 0⟩ = some (.int .i64 (fac n), ⟨[], 0⟩) := h1
  clear h1
  generalize fac n = z at *
  rw [fi74] at h2 ⊢
  simp [xI_seq, xI_region, xI_ret, regA, regOps, runOps, opStep, wantedA, opA, evo, evos, calleeA, lk, nif_eq, putE, paramsE, valS, val2, keepE, restrict, finA, resA, binA, binInt, ofConst, ofConst1, loadA, TK.isAgg, asVar, unA, builtinA, lenOpA, lenA, ileb_cast, ileb_eq, ieqb_dec, indexAddrA, inB_dec, evPairs, storeA, AV.cellsOf, pairsOf, xI_nil, binBool, gcE, evOpt, xI_block, xI_loopH, xI_condM, xI_exitM, xI_skip, xI_blk, exitA, ty2, eK74_0_0]
  exact h2

noncomputable def b72 : Code := Try.f72.body.getD .skip
noncomputable def B72_0 : Code := (bodyC (bodyC (sndC (fstC (sndC (sndC b72))))))
noncomputable def K72_0 : List It := .lp B72_0 :: .blk 0 :: .code (sndC (sndC (sndC b72))) :: []
theorem xl72_0 {fi : FI} {env : Env} {σ : St} : exI TT fi K72_0 env σ = exI TT fi (.code B72_0 :: K72_0) env σ := by unfold K72_0; exact xI_lp
noncomputable def R72_0_0 : List It := .code (sndC (sndC (sndC b72))) :: []
theorem eK72_0_0 : exitA 0 K72_0 = some R72_0_0 := rfl
theorem l72 (n : Nat) (hn : n ≤ 12) (σ : St) : ∀ (m j : Nat), 1 ≤ j → j ≤ 12 → (j + m = n ∨ (m = 0 ∧ n ≤ j)) → exI TT (FI.of Try.f72 (TT.an 72)) K72_0 [(0, .int .i64 n), (3, .int .i64 (fac j)), (4, .int .i64 (j + 1 : Nat))] σ = some (.int .i64 (fac (j + m)), σ) := by
  intro m
  induction m with
  | zero =>
    intro j hj hj12 hjn
    have hle : ¬ (j : Int) + 1 ≤ n := by omega
    rw [Nat.add_zero, show ((j + 1 : Nat) : Int) = (j : Int) + 1 by omega]
    generalize fac j = z
    rw [fi72]
    rw [xl72_0]
    simp only [B72_0, b72, Try.f72, Option.getD, fstC, sndC, bodyC, thnC, elsC]
    simp [xI_seq, xI_region, xI_ret, regA, regOps, runOps, opStep, wantedA, opA, evo, evos, calleeA, lk, nif_eq, putE, paramsE, valS, val2, keepE, restrict, finA, resA, binA, binInt, ofConst, ofConst1, loadA, TK.isAgg, asVar, unA, builtinA, lenOpA, lenA, ileb_cast, ileb_eq, ieqb_dec, indexAddrA, inB_dec, evPairs, storeA, AV.cellsOf, pairsOf, xI_nil, binBool, gcE, evOpt, xI_block, xI_loopH, xI_condM, xI_exitM, xI_skip, xI_blk, exitA, ty2, eK72_0_0, hle]
    simp only [R72_0_0, b72, Try.f72, Option.getD, fstC, sndC, bodyC, thnC, elsC]
    simp [xI_seq, xI_region, xI_ret, regA, regOps, runOps, opStep, wantedA, opA, evo, evos, calleeA, lk, nif_eq, putE, paramsE, valS, val2, keepE, restrict, finA, resA, binA, binInt, ofConst, ofConst1, loadA, TK.isAgg, asVar, unA, builtinA, lenOpA, lenA, ileb_cast, ileb_eq, ieqb_dec, indexAddrA, inB_dec, evPairs, storeA, AV.cellsOf, pairsOf, xI_nil, binBool, gcE, evOpt, xI_block, xI_loopH, xI_condM, xI_exitM, xI_skip, xI_blk, exitA, ty2, eK72_0_0]
  | succ m ih =>
    intro j hj hj12 hjn
    have h1 := ih (j + 1) (by omega) (by omega) (by omega)
    have hle : (j : Int) + 1 ≤ n := by omega
    have hw : wrapA .i64 ((j : Int) + 1 + 1) = (j : Int) + 1 + 1 := wrapA_id (by omega) (by omega)
    have hf := fac_le (n := j + 1) (by omega)
    have hm : wrapA .i64 ((fac j : Int) * ((j : Int) + 1)) = fac (j + 1) := by
      have e : (fac j : Int) * ((j : Int) + 1) = (fac (j + 1) : Nat) := by
        rw [show fac (j + 1) = (j + 1) * fac j from rfl, Int.natCast_mul, Int.mul_comm]; simp
      rw [e, wrapA_id (by omega) (by omega)]
    rw [show j + (m + 1) = j + 1 + m by omega, show ((j + 1 : Nat) : Int) = (j : Int) + 1 by omega]
    rw [show ((j + 1 + 1 : Nat) : Int) = (j : Int) + 1 + 1 by omega] at h1
    generalize fac (j + 1) = z at *
    generalize fac j = y at *
    generalize fac (j + 1 + m) = r at *
    rw [fi72] at h1 ⊢
    rw [xl72_0]
    simp only [B72_0, b72, Try.f72, Option.getD, fstC, sndC, bodyC, thnC, elsC]
    simp [xI_seq, xI_region, xI_ret, regA, regOps, runOps, opStep, wantedA, opA, evo, evos, calleeA, lk, nif_eq, putE, paramsE, valS, val2, keepE, restrict, finA, resA, binA, binInt, ofConst, ofConst1, loadA, TK.isAgg, asVar, unA, builtinA, lenOpA, lenA, ileb_cast, ileb_eq, ieqb_dec, indexAddrA, inB_dec, evPairs, storeA, AV.cellsOf, pairsOf, xI_nil, binBool, gcE, evOpt, xI_block, xI_loopH, xI_condM, xI_exitM, xI_skip, xI_blk, exitA, ty2, eK72_0_0, hle, hw, hm]
    exact h1
theorem c72 (n : Nat) (hn : n ≤ 12) (σ : St) : callI TT 72 [.int .i64 n] σ = some (.int .i64 (fac n), σ) := by
  refine (FnV.mk (args' := [.int .i64 n]) fn72 rfl md72 ⟨⟨[], 0⟩, ?_⟩ (fun _ => rfl) rfl) σ _ rfl
  have h1 := l72 n hn ⟨[], 0⟩ (n - 1) 1 (by omega) (by omega) (by omega)
  have he : fac (1 + (n - 1)) = fac n := by
    cases n with
    | zero => rfl
    | succ n => rw [show 1 + (n + 1 - 1) = n + 1 by omega]
  rw [he] at h1
  have h2 : exI TT (FI.of Try.f72 (TT.an 72)) K72_0 [(0, .int .i64 n), (3, .int .i64 1), (4, .int .i64 2)] ⟨[], 0⟩ = some (.int .i64 (fac n), ⟨[], 0⟩) := h1
  clear h1
  generalize fac n = z at *
  rw [fi72] at h2 ⊢
  simp [xI_seq, xI_region, xI_ret, regA, regOps, runOps, opStep, wantedA, opA, evo, evos, calleeA, lk, nif_eq, putE, paramsE, valS, val2, keepE, restrict, finA, resA, binA, binInt, ofConst, ofConst1, loadA, TK.isAgg, asVar, unA, builtinA, lenOpA, lenA, ileb_cast, ileb_eq, ieqb_dec, indexAddrA, inB_dec, evPairs, storeA, AV.cellsOf, pairsOf, xI_nil, binBool, gcE, evOpt, xI_block, xI_loopH, xI_condM, xI_exitM, xI_skip, xI_blk, exitA, ty2, eK72_0_0]
  exact h2

theorem m76 (σ : St) (b m c i : Nat) (l junk : List Int) (hm : m = l.length) (hc : c = m + junk.length) (hi : i < m) (hs : c < 1000) (hr : Row σ b (l ++ junk)) :
    ∃ σ', callI TT 76 [.sl b 0 m c, .int .i64 i, .int .i64 (i + 1 : Nat)] σ = some (.sl b 0 (m - 1) c, σ') ∧ Row σ' b (l.eraseIdx i ++ 0 :: junk) ∧ But b σ σ' := by
  obtain ⟨v3, h3⟩ : ∃ v, slice3A TT σ 22 (.sl b 0 m c) (some (.int .i64 i)) (some (.int .i64 ((i : Int) + 1))) (.int .i64 m) = some v := by
    obtain ⟨o, hg, _⟩ := hr
    unfold slice3A
    simp only [ty22, ty2]
    rw [if_pos ⟨by omega, by omega, by omega, by omega⟩]
    have : boundA (some (.int .i64 (i : Int))) ((i : Int) + 1).toNat 0 = some i := by simp [boundA]; omega
    simp only [this, hg]
    split <;> exact ⟨_, rfl⟩
  have e1 : sliceA TT σ 22 (.sl b 0 m c) none (some (.int .i64 i)) = some (.sl b 0 i c) := by
    have h1 : boundA (some (.int .i64 (i : Int))) c m = some i := by simp [boundA]; omega
    have h2 : boundA none i 0 = some 0 := by simp [boundA]
    simp [sliceA, ty22, ty2, h1, h2]
  obtain ⟨t25, e2, hlen, hfst⟩ : ∃ t, sliceA TT σ 22 (.sl b 0 m c) (some (.int .i64 ((i : Int) + 1))) none = some t ∧ lenA t = some (m - (i + 1)) ∧ firstA σ 1 (m - (i + 1)) t = some (ints (l.drop (i + 1))) := by
    have h1 : boundA none c m = some m := by simp [boundA]; omega
    have h2 : boundA (some (.int .i64 ((i : Int) + 1))) m 0 = some (i + 1) := by simp [boundA]; omega
    obtain ⟨o, hg, _⟩ := hr
    by_cases hlc : i + 1 < c
    · refine ⟨.sl b (i + 1) (m - (i + 1)) (c - (i + 1)), ?_, rfl, ?_⟩
      · simp [sliceA, ty22, ty2, h1, h2, hlc]
      · simp only [firstA, hg, Nat.mul_one]
        rw [getCells_part (by simp; omega)]
        congr 2
        rw [List.drop_append_of_le_length (by omega), List.take_append_of_le_length (by simp; omega), List.take_of_length_le (by simp; omega)]
    · have hm1 : m = i + 1 := by omega
      have hd : l.drop (i + 1) = [] := List.drop_of_length_le (by omega)
      have hz : m - (i + 1) = 0 := by omega
      rw [hd, hz]
      cases o with
      | false =>
        refine ⟨.sl b 0 0 0, ?_, rfl, by simp [firstA, hg, getCells, dropN, takeN, ints]⟩
        have hcl : closedB σ b = true := by simp [closedB, hg]
        have hic : i + 1 = c := by omega
        simp only [sliceA, ty22, ty2, h1, h2]
        rw [if_neg (by omega), if_pos hcl]
        simp [hg, hic]
      | true =>
        refine ⟨.lst 0 [], ?_, rfl, by simp [firstA, getCells, dropN, takeN, ints]⟩
        have hcl : ¬ closedB σ b = true := by simp [closedB, hg]
        simp only [sliceA, ty22, ty2, h1, h2]
        rw [if_neg (by omega), if_neg hcl]
  obtain ⟨σ1, ha, hr1, hb1⟩ := append_in (i := i) (c := c) (k := m - (i + 1)) (nl := l.drop (i + 1)) ty22 ty2 hr (by simp; omega) (by simp; omega) (by omega) hlen hfst
  have hik : i + (m - (i + 1)) = m - 1 := by omega
  rw [hik] at ha hr1
  have hfull : (l ++ junk).take i ++ l.drop (i + 1) ++ (l ++ junk).drop (m - 1) = l.eraseIdx i ++ (l ++ junk).drop (m - 1) := by
    rw [List.take_append_of_le_length (by omega), List.eraseIdx_eq_take_drop_succ]
  rw [hfull] at hr1
  have hel : (l.eraseIdx i).length = m - 1 := by rw [List.length_eraseIdx, if_pos (by omega), hm]
  have e3 : sliceA TT σ1 22 (.sl b 0 (m - 1) c) (some (.int .i64 (m - 1 : Nat))) (some (.int .i64 m)) = some (.sl b (m - 1) 1 (c - (m - 1))) := by
    have h1 : boundA (some (.int .i64 (m : Int))) c (m - 1) = some m := by simp [boundA]; omega
    have h2 : boundA (some (.int .i64 ((m - 1 : Nat) : Int))) m 0 = some (m - 1) := by simp [boundA]
    have h3 : m - 1 = 0 ∨ m - 1 < c := by omega
    have h4 : m - (m - 1) = 1 := by omega
    simp only [sliceA, ty22, ty2, h1, h2]
    rw [if_pos h3]
    simp [h4]
  obtain ⟨y, hy⟩ : ∃ y, (l ++ junk).drop (m - 1) = y :: junk := by
    obtain ⟨s, z, hsz⟩ : ∃ s z, l = s ++ [z] := ⟨l.dropLast, l.getLast (by intro e; rw [e] at hm; simp at hm; omega), (List.dropLast_concat_getLast _).symm⟩
    refine ⟨z, ?_⟩
    have : s.length = m - 1 := by rw [hm, hsz]; simp
    rw [hsz, ← this]; simp
  rw [hy] at hr1
  obtain ⟨σ2, s2, r2, n2, o2⟩ := store_row (i := m - 1) (x := 0) hr1 (by simp [hel])
  have hset : (l.eraseIdx i ++ y :: junk).set (m - 1) 0 = l.eraseIdx i ++ 0 :: junk := by rw [← hel]; simp
  rw [hset] at r2
  refine ⟨σ2, ?_, r2, n2.trans hb1.1, fun d hd => (o2 d hd).trans (hb1.2 d hd)⟩
  have hne : ¬ (i : Int) = (i : Int) + 1 := by omega
  rw [show ((i + 1 : Nat) : Int) = (i : Int) + 1 by omega]
  obtain ⟨m1, hm1⟩ : ∃ q, q = m - 1 := ⟨_, rfl⟩
  rw [← hm1] at ha e3 s2 ⊢
  rw [cI_0 fn76 rfl md76, fi76]
  simp [xI_seq, xI_region, xI_ret, regA, regOps, runOps, opStep, wantedA, opA, evo, evos, calleeA, lk, nif_eq, putE, paramsE, valS, val2, keepE, restrict, finA, resA, binA, binInt, ofConst, ofConst1, loadA, TK.isAgg, asVar, unA, builtinA, lenOpA, lenA, ileb_cast, ileb_eq, ieqb_dec, indexAddrA, inB_dec, evPairs, storeA, AV.cellsOf, pairsOf, xI_nil, binBool, gcE, evOpt, xI_block, xI_loopH, xI_condM, xI_exitM, xI_skip, xI_blk, exitA, ty2, ty3, ty22, h3, hne, e1, e2, ha, e3, clearA, repeatCells, s2]

end Go.Proofs.Ytaniaeefijgaiaa
