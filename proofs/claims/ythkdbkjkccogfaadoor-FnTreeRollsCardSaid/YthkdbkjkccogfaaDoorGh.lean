/- Contracts: sources of choices. Nothing is claimed here; no condition. -/
import Derived.Test.YthkdbkjkccogfaaDoorGd
import Derived.Test.YthkdbkjkccogfaaDoorWx
namespace Go.Proofs.YthkdbkjkccogfaaDoor
open Go Go.Abs
set_option linter.unusedSimpArgs false
set_option linter.unusedVariables false
open Go.Wd
theorem wrap_u (z : Int) : ∃ m : Nat, wrapA .u64 z = m ∧ m < 18446744073709551616 := by
  refine ⟨(wrapA .u64 z).toNat, ?_, ?_⟩ <;> (rw [wrapA_eq]; simp [IntKind.wrap, IntKind.bits, IntKind.signed]; omega)
/-- A source of choices in the heap. -/
def SRC (σ : St) (s : Nat) (l : List Nat) (k m : Nat) : Prop := s < σ.n ∧ σ.get s = some ⟨[.lst l.length (byts l), .int .i64 k, .int .u64 m], 3, false⟩ ∧ m < 18446744073709551616
theorem SRC.set {σ : St} {s : Nat} {l : List Nat} {k m k' m' : Nat} (h : SRC σ s l k m) (hm : m' < 18446744073709551616) : ∃ σ1 σ2, storeCellsA σ s 1 [.int .i64 (k' : Int)] = some σ1 ∧ cellsAt σ1 (.ptr s 2) 1 = some [.int .u64 m] ∧ storeCellsA σ1 s 2 [.int .u64 (m' : Int)] = some σ2 ∧ SRC σ2 s l k' m' ∧ σ2.n = σ.n ∧ ∀ c, c ≠ s → σ2.get c = σ.get c := by
  obtain ⟨h1, h2, _⟩ := h
  have e1 : (σ.set s ⟨[.lst l.length (byts l), .int .i64 k', .int .u64 m], 3, false⟩).get s = some ⟨[.lst l.length (byts l), .int .i64 k', .int .u64 m], 3, false⟩ := get_set_eq h2
  refine ⟨σ.set s ⟨[.lst l.length (byts l), .int .i64 k', .int .u64 m], 3, false⟩, (σ.set s ⟨[.lst l.length (byts l), .int .i64 k', .int .u64 m], 3, false⟩).set s ⟨[.lst l.length (byts l), .int .i64 k', .int .u64 m'], 3, false⟩, ?_, ?_, ?_, ⟨h1, get_set_eq e1, hm⟩, rfl, fun c hc => ?_⟩
  · simp [storeCellsA, h2, allOne, AV.one, putN, overN]
  · simp [cellsAt, e1, getCells, takeN, dropN]
  · simp [storeCellsA, e1, allOne, AV.one, putN, overN]
  · rw [get_set_ne (fun h => hc h.symm), get_set_ne (fun h => hc h.symm)]
theorem SRC.c0 {σ : St} {s : Nat} {l : List Nat} {k m : Nat} (h : SRC σ s l k m) : cellsAt σ (.ptr s 0) 1 = some [.lst l.length (byts l)] := by simp [cellsAt, h.2.1, getCells, takeN, dropN]
theorem SRC.c1 {σ : St} {s : Nat} {l : List Nat} {k m : Nat} (h : SRC σ s l k m) : cellsAt σ (.ptr s 1) 1 = some [.int .i64 k] := by simp [cellsAt, h.2.1, getCells, takeN, dropN]
theorem SRC.c2 {σ : St} {s : Nat} {l : List Nat} {k m : Nat} (h : SRC σ s l k m) : cellsAt σ (.ptr s 2) 1 = some [.int .u64 m] := by simp [cellsAt, h.2.1, getCells, takeN, dropN]
theorem c116 (l : List Nat) (hl : ∀ x ∈ l, x < 256) (hll : l.length ≤ 1000) (k m : Nat) (hk : k ≤ 1000000) (σ : St) (s : Nat) (h : SRC σ s l k m) :
    ∃ (r m' : Nat) (σ' : St), callI TT 116 [.ptr s 0] σ = some (.int .i64 r, σ') ∧ r ≤ 255 ∧ SRC σ' s l (k + 1) m' ∧ σ'.n = σ.n ∧ ∀ c, c ≠ s → σ'.get c = σ.get c := by
  have c0 := h.c0
  have c1 := h.c1
  have hw := wrapS (n := k) (by omega)
  have step : ∀ b : Nat, ∃ (m3 : Nat) (σ1 σ2 : St), m3 < 18446744073709551616 ∧ storeCellsA σ s 1 [.int .i64 ((k : Int) + 1)] = some σ1 ∧ cellsAt σ1 (.ptr s 2) 1 = some [.int .u64 m] ∧ wrapA .u64 (wrapA .u64 (wrapA .u64 ((m : Int) * 6364136223846793005) + (b : Int)) + 1442695040888963407) = (m3 : Int) ∧ storeCellsA σ1 s 2 [.int .u64 (m3 : Int)] = some σ2 ∧ SRC σ2 s l (k + 1) m3 ∧ σ2.n = σ.n ∧ ∀ c, c ≠ s → σ2.get c = σ.get c := by
    intro b
    obtain ⟨m3, e3, h3⟩ := wrap_u (wrapA .u64 (wrapA .u64 ((m : Int) * 6364136223846793005) + (b : Int)) + 1442695040888963407)
    obtain ⟨σ1, σ2, a1, a2, a3, a4, a5, a6⟩ := h.set (k' := k + 1) h3
    exact ⟨m3, σ1, σ2, h3, by simpa using a1, a2, e3, a3, a4, a5, a6⟩
  by_cases hlt : k < l.length
  · obtain ⟨b, hb⟩ : ∃ b, l[k]? = some b := ⟨l[k], List.getElem?_eq_getElem hlt⟩
    have hb2 : b < 256 := hl b (List.mem_of_getElem? hb)
    obtain ⟨m3, σ1, σ2, h3, a1, a2, a3, a4, a5, a6, a7⟩ := step b
    have d0 := a5.c0
    have d1 := a5.c1
    have kb : ∀ σ, cellsAt σ (.lp (byts l) k) 1 = some [.int .u8 b] := fun σ => getCells_byt hb
    have u1 : wrapA .i64 (b : Int) = b := n_wrap (by omega)
    have u2 : wrapA .u64 (b : Int) = b := n_wrapu (by omega)
    have hlt2 : ¬ l.length ≤ k := by omega
    have hle : k + 1 ≤ l.length := by omega
    have hle' : (k : Int) + 1 ≤ l.length := by omega
    have hle2 : ¬ ((l.length : Int) < (k : Int) + 1) := by omega
    refine ⟨b, m3, σ2, ?_, by omega, a5, a6, a7⟩
    simp only [Int.natCast_add, show ((1 : Nat) : Int) = 1 from rfl] at d1
    rw [cI_0 fn116 rfl md116, fi116]
    simp [xI_seq, xI_region, xI_ret, regA, regOps, runOps, opStep, wantedA, opA, evo, evos, calleeA, lk, nif_eq, putE, paramsE, valS, val2, keepE, restrict, finA, resA, binA, binInt, ofConst, ofConst1, loadA, TK.isAgg, asVar, unA, builtinA, lenOpA, lenA, ileb_cast, ileb_eq, ieqb_dec, indexAddrA, inB_dec, evPairs, storeA, AV.cellsOf, pairsOf, xI_nil, binBool, gcE, evOpt, tagZ, xI_block, xI_loopH, xI_condM, xI_exitM, xI_skip, xI_blk, exitA, ty2, ty3, ty5, ty32, ty141, ty143, fieldAddrA, allOne, AV.one, ty2, ty3, ty5, ty32, ty96, ty141, ty143, c0, c1, hw, hlt, hlt2, kb, u1, u2, a1, a2, a3, a4, d0, d1, hle, hle', hle2, convA]
  · obtain ⟨m3, σ1, σ2, h3, a1, a2, a3, a4, a5, a6, a7⟩ := step 0
    have d0 := a5.c0
    have d1 := a5.c1
    have d2 := a5.c2
    have u2 : wrapA .u64 (0 : Int) = 0 := by decide
    have hlt2 : l.length ≤ k := by omega
    have hle : ¬ k + 1 ≤ l.length := by omega
    have hle' : ¬ (k : Int) + 1 ≤ l.length := by omega
    have hle2 : (l.length : Int) < (k : Int) + 1 := by omega
    have e1 : shrA (m3 : Int) (min 40 IntKind.u64.bits) = ((shrN m3 40 : Nat) : Int) := rfl
    have e2 : bitsA .and .u64 ((shrN m3 40 : Nat) : Int) 255 = some (.int .u64 ((andN (shrN m3 40) 255 : Nat) : Int)) := w_and .u64 (a := shrN m3 40) (b := 255) (by show m3 / 2 ^ 40 ≤ _; simp only [topOf]; omega) (by decide)
    have e3 : andN (shrN m3 40) 255 ≤ 255 := Nat.and_le_right
    have e4 : wrapA .i64 ((andN (shrN m3 40) 255 : Nat) : Int) = ((andN (shrN m3 40) 255 : Nat) : Int) := n_wrap (by omega)
    refine ⟨andN (shrN m3 40) 255, m3, σ2, ?_, e3, a5, a6, a7⟩
    simp only [Int.natCast_add, show ((1 : Nat) : Int) = 1 from rfl] at d1
    simp only [show ((0 : Nat) : Int) = 0 from rfl, Int.add_zero] at a3
    rw [cI_0 fn116 rfl md116, fi116]
    simp [xI_seq, xI_region, xI_ret, regA, regOps, runOps, opStep, wantedA, opA, evo, evos, calleeA, lk, nif_eq, putE, paramsE, valS, val2, keepE, restrict, finA, resA, binA, binInt, ofConst, ofConst1, loadA, TK.isAgg, asVar, unA, builtinA, lenOpA, lenA, ileb_cast, ileb_eq, ieqb_dec, indexAddrA, inB_dec, evPairs, storeA, AV.cellsOf, pairsOf, xI_nil, binBool, gcE, evOpt, tagZ, xI_block, xI_loopH, xI_condM, xI_exitM, xI_skip, xI_blk, exitA, ty2, ty3, ty5, ty32, ty141, ty143, fieldAddrA, allOne, AV.one, ty2, ty3, ty5, ty32, ty96, ty141, ty143, c0, c1, hw, hlt, hlt2, u2, a1, a2, a3, a4, d0, d1, d2, hle, hle', hle2, e1, e2, e4, convA]

theorem c66 (l : List Nat) (hl : ∀ x ∈ l, x < 256) (hll : l.length ≤ 1000) (k m : Nat) (hk : k ≤ 999000) (n : Nat) (hn : n ≤ 1000000) (σ : St) (s : Nat) (h : SRC σ s l k m) :
    ∃ (r k' m' : Nat) (σ' : St), callI TT 66 [.ptr s 0, .int .i64 n] σ = some (.int .i64 r, σ') ∧ r < max 1 n ∧ SRC σ' s l k' m' ∧ k' ≤ k + 2 ∧ σ'.n = σ.n ∧ ∀ c, c ≠ s → σ'.get c = σ.get c := by
  by_cases h1 : n ≤ 1
  · have h1' : (n : Int) ≤ 1 := by omega
    refine ⟨0, k, m, σ, ?_, by omega, h, by omega, rfl, fun _ _ => rfl⟩
    rw [cI_0 fn66 rfl md66, fi66]
    simp [xI_seq, xI_region, xI_ret, regA, regOps, runOps, opStep, wantedA, opA, evo, evos, calleeA, lk, nif_eq, putE, paramsE, valS, val2, keepE, restrict, finA, resA, binA, binInt, ofConst, ofConst1, loadA, TK.isAgg, asVar, unA, builtinA, lenOpA, lenA, ileb_cast, ileb_eq, ieqb_dec, indexAddrA, inB_dec, evPairs, storeA, AV.cellsOf, pairsOf, xI_nil, binBool, gcE, evOpt, tagZ, xI_block, xI_loopH, xI_condM, xI_exitM, xI_skip, xI_blk, exitA, ty2, h1, h1']
  · have h1' : ¬ (n : Int) ≤ 1 := by omega
    have h0 : ¬ (n : Int) = 0 := by omega
    have h00 : ¬ n = 0 := by omega
    obtain ⟨r1, m1, σ1, c1, b1, s1, e1, k1⟩ := c116 l hl hll k m (by omega) σ s h
    by_cases h2 : 200 < n
    · have h2' : (200 : Int) < (n : Int) := by omega
      obtain ⟨r2, m2, σ2, c2, b2, s2, e2, k2⟩ := c116 l hl hll (k + 1) m1 (by omega) σ1 s s1
      have w1 : wrapA .i64 ((r1 : Int) * 256) = ((mulN r1 256 : Nat) : Int) := n_wrap (a := mulN r1 256) (by show r1 * 256 ≤ _; omega)
      have w2 : wrapA .i64 (((mulN r1 256 : Nat) : Int) + (r2 : Int)) = ((addN (mulN r1 256) r2 : Nat) : Int) := by rw [← Int.natCast_add]; exact n_wrap (a := addN (mulN r1 256) r2) (by show r1 * 256 + r2 ≤ _; omega)
      have w3 : ((addN (mulN r1 256) r2 : Nat) : Int).tmod (n : Int) = ((modN (addN (mulN r1 256) r2) n : Nat) : Int) := rfl
      have w4 : ((addN (mulN r1 256) r2 : Nat) : Int) % (n : Int) = ((modN (addN (mulN r1 256) r2) n : Nat) : Int) := rfl
      have w5 : modN (addN (mulN r1 256) r2) n < n := Nat.mod_lt _ (by omega)
      refine ⟨modN (addN (mulN r1 256) r2) n, k + 2, m2, σ2, ?_, by omega, s2, Nat.le_refl _, by omega, fun c hc => (k2 c hc).trans (k1 c hc)⟩
      rw [cI_0 fn66 rfl md66, fi66]
      simp [xI_seq, xI_region, xI_ret, regA, regOps, runOps, opStep, wantedA, opA, evo, evos, calleeA, lk, nif_eq, putE, paramsE, valS, val2, keepE, restrict, finA, resA, binA, binInt, ofConst, ofConst1, loadA, TK.isAgg, asVar, unA, builtinA, lenOpA, lenA, ileb_cast, ileb_eq, ieqb_dec, indexAddrA, inB_dec, evPairs, storeA, AV.cellsOf, pairsOf, xI_nil, binBool, gcE, evOpt, tagZ, xI_block, xI_loopH, xI_condM, xI_exitM, xI_skip, xI_blk, exitA, ty2, h1, h1', h0, h00, c1, h2, h2', w1, c2, w2, w3, w4]
    · have h2' : ¬ (200 : Int) < (n : Int) := by omega
      have w3 : (r1 : Int).tmod (n : Int) = ((modN r1 n : Nat) : Int) := rfl
      have w4 : (r1 : Int) % (n : Int) = ((modN r1 n : Nat) : Int) := rfl
      have w5 : modN r1 n < n := Nat.mod_lt _ (by omega)
      refine ⟨modN r1 n, k + 1, m1, σ1, ?_, by omega, s1, by omega, e1, k1⟩
      rw [cI_0 fn66 rfl md66, fi66]
      simp [xI_seq, xI_region, xI_ret, regA, regOps, runOps, opStep, wantedA, opA, evo, evos, calleeA, lk, nif_eq, putE, paramsE, valS, val2, keepE, restrict, finA, resA, binA, binInt, ofConst, ofConst1, loadA, TK.isAgg, asVar, unA, builtinA, lenOpA, lenA, ileb_cast, ileb_eq, ieqb_dec, indexAddrA, inB_dec, evPairs, storeA, AV.cellsOf, pairsOf, xI_nil, binBool, gcE, evOpt, tagZ, xI_block, xI_loopH, xI_condM, xI_exitM, xI_skip, xI_blk, exitA, ty2, h1, h1', h0, h00, c1, h2, h2', w3, w4]

theorem c67 (l : List Nat) (hl : ∀ x ∈ l, x < 256) (hll : l.length ≤ 1000) (k m : Nat) (hk : k ≤ 999000) (n : Nat) (hn : n ≤ 1000000) (σ : St) (s : Nat) (h : SRC σ s l k m) :
    ∃ (r : Bool) (k' m' : Nat) (σ' : St), callI TT 67 [.ptr s 0, .int .i64 n] σ = some (.bool r, σ') ∧ SRC σ' s l k' m' ∧ k' ≤ k + 2 ∧ σ'.n = σ.n ∧ ∀ c, c ≠ s → σ'.get c = σ.get c := by
  obtain ⟨r, k', m', σ', c1, _, s1, hk', hn', hc⟩ := c66 l hl hll k m hk n hn σ s h
  refine ⟨decide (r = 0), k', m', σ', ?_, s1, hk', hn', hc⟩
  rw [cI_0 fn67 rfl md67, fi67]
  simp [xI_seq, xI_region, xI_ret, regA, regOps, runOps, opStep, wantedA, opA, evo, evos, calleeA, lk, nif_eq, putE, paramsE, valS, val2, keepE, restrict, finA, resA, binA, binInt, ofConst, ofConst1, loadA, TK.isAgg, asVar, unA, builtinA, lenOpA, lenA, ileb_cast, ileb_eq, ieqb_dec, indexAddrA, inB_dec, evPairs, storeA, AV.cellsOf, pairsOf, xI_nil, binBool, gcE, evOpt, tagZ, xI_block, xI_loopH, xI_condM, xI_exitM, xI_skip, xI_blk, exitA, ty2, c1]

theorem c65 (l : List Nat) (σ : St) : ∃ σ', callI TT 65 [.lst l.length (byts l)] σ = some (.ptr σ.n 0, σ') ∧ SRC σ' σ.n l 0 0 ∧ σ'.n = σ.n + 1 ∧ Old σ σ' := by
  refine ⟨σ.push ⟨[.lst l.length (byts l), .int .i64 0, .int .u64 0], 3, false⟩, ?_, ⟨Nat.lt_succ_self _, get_push_same, by decide⟩, rfl, Old.push⟩
  rw [cI_0 fn65 rfl md65, fi65]
  simp [xI_seq, xI_region, xI_ret, regA, regOps, runOps, opStep, wantedA, opA, evo, evos, calleeA, lk, nif_eq, putE, paramsE, valS, val2, keepE, restrict, finA, resA, binA, binInt, ofConst, ofConst1, loadA, TK.isAgg, asVar, unA, builtinA, lenOpA, lenA, ileb_cast, ileb_eq, ieqb_dec, indexAddrA, inB_dec, evPairs, storeA, AV.cellsOf, pairsOf, xI_nil, binBool, gcE, evOpt, tagZ, xI_block, xI_loopH, xI_condM, xI_exitM, xI_skip, xI_blk, exitA, ty143, allOne, AV.one, buildA, sizesOf, fillA, putCells, ty3, ty32, ty141, ty143]

theorem v20 (l : List Nat) (hl : ∀ x ∈ l, x < 256) (hll : l.length ≤ 1000) (n : Nat) (hn : n ≤ 1000000) : ∃ r : Nat, r < max 1 n ∧ FnV TT 20 [.lst l.length (byts l), .int .i64 n] (.int .i64 r) := by
  obtain ⟨σ1, c1, s1, n1, _⟩ := c65 l ⟨[], 0⟩
  obtain ⟨r, k', m', σ2, c2, hr, _⟩ := c66 l hl hll 0 0 (by decide) n hn σ1 0 s1
  refine ⟨r, hr, FnV.mk fn20 rfl md20 ⟨σ2, ?_⟩ (fun _ => rfl) rfl⟩
  rw [fi20]
  simp only [show (⟨[], 0⟩ : St).n = 0 from rfl] at c1
  simp [xI_seq, xI_region, xI_ret, regA, regOps, runOps, opStep, wantedA, opA, evo, evos, calleeA, lk, nif_eq, putE, paramsE, valS, val2, keepE, restrict, finA, resA, binA, binInt, ofConst, ofConst1, loadA, TK.isAgg, asVar, unA, builtinA, lenOpA, lenA, ileb_cast, ileb_eq, ieqb_dec, indexAddrA, inB_dec, evPairs, storeA, AV.cellsOf, pairsOf, xI_nil, binBool, gcE, evOpt, tagZ, xI_block, xI_loopH, xI_condM, xI_exitM, xI_skip, xI_blk, exitA, c1, c2]

theorem v23 (l : List Nat) (hl : ∀ x ∈ l, x < 256) (hll : l.length ≤ 1000) (k : Nat) (hk : k ≤ 100000) (n : Nat) (hn : n ≤ 1000000000) : ∃ r : Nat, r < max 1 n ∧ FnV TT 23 [.lst l.length (byts l), .int .i64 k, .int .i64 n] (.int .i64 r) := by
  by_cases h1 : n ≤ 1
  · have h1' : (n : Int) ≤ 1 := by omega
    refine ⟨0, by omega, FnV.mk fn23 rfl md23 ⟨⟨[], 0⟩, ?_⟩ (fun _ => rfl) rfl⟩
    rw [fi23]
    simp [xI_seq, xI_region, xI_ret, regA, regOps, runOps, opStep, wantedA, opA, evo, evos, calleeA, lk, nif_eq, putE, paramsE, valS, val2, keepE, restrict, finA, resA, binA, binInt, ofConst, ofConst1, loadA, TK.isAgg, asVar, unA, builtinA, lenOpA, lenA, ileb_cast, ileb_eq, ieqb_dec, indexAddrA, inB_dec, evPairs, storeA, AV.cellsOf, pairsOf, xI_nil, binBool, gcE, evOpt, tagZ, xI_block, xI_loopH, xI_condM, xI_exitM, xI_skip, xI_blk, exitA, ty2, ty5, ty32, h1, h1']
  · have h1' : ¬ (n : Int) ≤ 1 := by omega
    by_cases h2 : l.length ≤ k
    · refine ⟨0, by omega, FnV.mk fn23 rfl md23 ⟨⟨[], 0⟩, ?_⟩ (fun _ => rfl) rfl⟩
      rw [fi23]
      simp [xI_seq, xI_region, xI_ret, regA, regOps, runOps, opStep, wantedA, opA, evo, evos, calleeA, lk, nif_eq, putE, paramsE, valS, val2, keepE, restrict, finA, resA, binA, binInt, ofConst, ofConst1, loadA, TK.isAgg, asVar, unA, builtinA, lenOpA, lenA, ileb_cast, ileb_eq, ieqb_dec, indexAddrA, inB_dec, evPairs, storeA, AV.cellsOf, pairsOf, xI_nil, binBool, gcE, evOpt, tagZ, xI_block, xI_loopH, xI_condM, xI_exitM, xI_skip, xI_blk, exitA, ty2, ty5, ty32, h1, h1', h2]
    · have h2' : k < l.length := by omega
      obtain ⟨b, hb⟩ : ∃ b, l[k]? = some b := ⟨l[k], List.getElem?_eq_getElem h2'⟩
      have hb2 : b < 256 := hl b (List.mem_of_getElem? hb)
      have kb : ∀ σ, cellsAt σ (.lp (byts l) k) 1 = some [.int .u8 b] := fun σ => getCells_byt hb
      have u1 : wrapA .i64 (b : Int) = b := n_wrap (by omega)
      have h0 : ¬ (n : Int) = 0 := by omega
      have h00 : ¬ n = 0 := by omega
      have w3 : (b : Int).tmod (n : Int) = ((modN b n : Nat) : Int) := rfl
      have w4 : (b : Int) % (n : Int) = ((modN b n : Nat) : Int) := rfl
      have w5 : modN b n < n := Nat.mod_lt _ (by omega)
      refine ⟨modN b n, by omega, FnV.mk fn23 rfl md23 ⟨⟨[], 0⟩, ?_⟩ (fun _ => rfl) rfl⟩
      rw [fi23]
      simp [xI_seq, xI_region, xI_ret, regA, regOps, runOps, opStep, wantedA, opA, evo, evos, calleeA, lk, nif_eq, putE, paramsE, valS, val2, keepE, restrict, finA, resA, binA, binInt, ofConst, ofConst1, loadA, TK.isAgg, asVar, unA, builtinA, lenOpA, lenA, ileb_cast, ileb_eq, ieqb_dec, indexAddrA, inB_dec, evPairs, storeA, AV.cellsOf, pairsOf, xI_nil, binBool, gcE, evOpt, tagZ, xI_block, xI_loopH, xI_condM, xI_exitM, xI_skip, xI_blk, exitA, ty2, ty5, ty32, h1, h1', h2, h2', kb, u1, h0, h00, w3, w4, convA, ty5]

theorem v18 (a b : List Nat) : FnV TT 18 [.lst a.length (byts a), .lst b.length (byts b)] (.bool (decide (48 < a.length) || decide (48 < b.length))) := by
  refine FnV.mk fn18 rfl md18 ⟨⟨[], 0⟩, ?_⟩ (fun _ => rfl) rfl
  rw [fi18]
  by_cases h1 : 48 < a.length
  · have h1' : (48 : Int) < a.length := by omega
    have h1'' : ¬ (a.length : Int) ≤ 48 := by omega
    simp [xI_seq, xI_region, xI_ret, regA, regOps, runOps, opStep, wantedA, opA, evo, evos, calleeA, lk, nif_eq, putE, paramsE, valS, val2, keepE, restrict, finA, resA, binA, binInt, ofConst, ofConst1, loadA, TK.isAgg, asVar, unA, builtinA, lenOpA, lenA, ileb_cast, ileb_eq, ieqb_dec, indexAddrA, inB_dec, evPairs, storeA, AV.cellsOf, pairsOf, xI_nil, binBool, gcE, evOpt, tagZ, xI_block, xI_loopH, xI_condM, xI_exitM, xI_skip, xI_blk, exitA, ty3, ty5, ty32, h1, h1', h1'']
  · have h1' : ¬ (48 : Int) < a.length := by omega
    have h1'' : (a.length : Int) ≤ 48 := by omega
    by_cases h2 : 48 < b.length
    · have h2' : (48 : Int) < b.length := by omega
      have h2'' : ¬ (b.length : Int) ≤ 48 := by omega
      simp [xI_seq, xI_region, xI_ret, regA, regOps, runOps, opStep, wantedA, opA, evo, evos, calleeA, lk, nif_eq, putE, paramsE, valS, val2, keepE, restrict, finA, resA, binA, binInt, ofConst, ofConst1, loadA, TK.isAgg, asVar, unA, builtinA, lenOpA, lenA, ileb_cast, ileb_eq, ieqb_dec, indexAddrA, inB_dec, evPairs, storeA, AV.cellsOf, pairsOf, xI_nil, binBool, gcE, evOpt, tagZ, xI_block, xI_loopH, xI_condM, xI_exitM, xI_skip, xI_blk, exitA, ty3, ty5, ty32, h1, h1', h1'', h2, h2', h2'']
    · have h2' : ¬ (48 : Int) < b.length := by omega
      have h2'' : (b.length : Int) ≤ 48 := by omega
      simp [xI_seq, xI_region, xI_ret, regA, regOps, runOps, opStep, wantedA, opA, evo, evos, calleeA, lk, nif_eq, putE, paramsE, valS, val2, keepE, restrict, finA, resA, binA, binInt, ofConst, ofConst1, loadA, TK.isAgg, asVar, unA, builtinA, lenOpA, lenA, ileb_cast, ileb_eq, ieqb_dec, indexAddrA, inB_dec, evPairs, storeA, AV.cellsOf, pairsOf, xI_nil, binBool, gcE, evOpt, tagZ, xI_block, xI_loopH, xI_condM, xI_exitM, xI_skip, xI_blk, exitA, ty3, ty5, ty32, h1, h1', h1'', h2, h2', h2'']

end Go.Proofs.YthkdbkjkccogfaaDoor
