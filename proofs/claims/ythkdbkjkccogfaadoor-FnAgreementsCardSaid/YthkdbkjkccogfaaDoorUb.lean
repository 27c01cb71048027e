/- Contracts behind the law of agreements, laid out of the texts of the same hand. Nothing is claimed here; no condition. -/
import Derived.Test.YthkdbkjkccogfaaDoorUa
set_option linter.unusedSimpArgs false
set_option linter.unusedVariables false
namespace Go.Proofs.YthkdbkjkccogfaaDoor
open Go Go.Abs
open Go.Wd
noncomputable def lenOk (x : Int) (y : Int) : Bool := match exec TT 200 (FI.of Tryd.f130 (TT.an 130)) [.code (Tryd.f130.body.getD .skip)] (paramsE 0 [.int .u64 x]) ⟨[], 0⟩ with
  | some (v, _) => v.eqv (.int .i64 y)
  | none => false
theorem len_of {x y : Int} (h : lenOk x y = true) : FnV TT 130 [.int .u64 x] (.int .i64 y) := by
  refine FnV.mk fn130 (c := Tryd.f130.body.getD .skip) rfl md130 ?_ (fun _ => rfl) rfl
  unfold lenOk at h
  cases hx : exec TT 200 (FI.of Tryd.f130 (TT.an 130)) [.code (Tryd.f130.body.getD .skip)] (paramsE 0 [.int .u64 x]) ⟨[], 0⟩ with
  | none => rw [hx] at h; cases h
  | some r =>
    rw [hx] at h
    obtain ⟨v, σ1⟩ := r
    have := eqv_sound _ _ h
    exact ⟨σ1, by rw [exI_iff.2 ⟨200, hx⟩, this]⟩
open Go.Wd
open Go.Wd
open Go.Wd
def bitf (l : List UInt8) (i : Nat) : Bool := decide (l[i]? = some 49)
open Go.Wd
theorem bit_get {l : List UInt8} (h : l.all isBit = true) {i : Nat} (hi : i < l.length) : l[i]? = some (bb (bitf l i).toNat) := by
  obtain ⟨x, hx⟩ := get_at hi
  have hb := isBit_at h hx
  have h2 : x = bb (bitf l i).toNat := by
    apply UInt8.toNat_inj.1
    rw [bitf, hx]
    rcases hb with e | e
    · have : x = 48 := UInt8.toNat_inj.1 e
      subst this; rfl
    · have : x = 49 := UInt8.toNat_inj.1 e
      subst this; rfl
  rw [hx, h2]
open Go.Wd
theorem wrap_u (z : Int) : ∃ m : Nat, wrapA .u64 z = m ∧ m < 18446744073709551616 := by
  refine ⟨(wrapA .u64 z).toNat, ?_, ?_⟩ <;> (rw [wrapA_eq]; simp [IntKind.wrap, IntKind.bits, IntKind.signed]; omega)
/-- A source of choices in the heap. -/
def SRC (σ : St) (s : Nat) (l : List Nat) (k m : Nat) : Prop := s < σ.n ∧ σ.get s = some ⟨[.lst l.length (byts l), .int .i64 k, .int .u64 m], 3, false⟩ ∧ m < 18446744073709551616
theorem SRC.set {σ : St} {s : Nat} {l : List Nat} {k m k' m' : Nat} (h : SRC σ s l k m) (hm : m' < 18446744073709551616) : ∃ σ1 σ2, storeCellsA σ s 1 [.int .i64 (k' : Int)] = some σ1 ∧ cellsAt σ1 (.ptr s 2) 1 = some [.int .u64 m] ∧ storeCellsA σ1 s 2 [.int .u64 (m' : Int)] = some σ2 ∧ SRC σ2 s l k' m' ∧ σ2.n = σ.n ∧ ∀ c, c ≠ s → σ2.get c = σ.get c := by
  obtain ⟨h1, h2, _⟩ := h
  have e1 : (σ.set s ⟨[.lst l.length (byts l), .int .i64 k', .int .u64 m], 3, false⟩).get s = some ⟨[.lst l.length (byts l), .int .i64 k', .int .u64 m], 3, false⟩ := get_set_eq h2
  refine ⟨σ.set s ⟨[.lst l.length (byts l), .int .i64 k', .int .u64 m], 3, false⟩, (σ.set s ⟨[.lst l.length (byts l), .int .i64 k', .int .u64 m], 3, false⟩).set s ⟨[.lst l.length (byts l), .int .i64 k', .int .u64 m'], 3, false⟩, ?_, ?_, ?_, ⟨h1, get_set_eq e1, hm⟩, rfl, fun c hc => ?_⟩
  · simp [storeCellsA, h2, allOne, AV.one, putN, overN]
  · simp [cellsAt, e1, getCells, takeN, dropN]
  · simp [storeCellsA, e1, allOne, AV.one, putN, overN]
  · rw [get_set_ne (fun h => hc h.symm), get_set_ne (fun h => hc h.symm)]
theorem SRC.c0 {σ : St} {s : Nat} {l : List Nat} {k m : Nat} (h : SRC σ s l k m) : cellsAt σ (.ptr s 0) 1 = some [.lst l.length (byts l)] := by simp [cellsAt, h.2.1, getCells, takeN, dropN]
theorem SRC.c1 {σ : St} {s : Nat} {l : List Nat} {k m : Nat} (h : SRC σ s l k m) : cellsAt σ (.ptr s 1) 1 = some [.int .i64 k] := by simp [cellsAt, h.2.1, getCells, takeN, dropN]
theorem SRC.c2 {σ : St} {s : Nat} {l : List Nat} {k m : Nat} (h : SRC σ s l k m) : cellsAt σ (.ptr s 2) 1 = some [.int .u64 m] := by simp [cellsAt, h.2.1, getCells, takeN, dropN]
theorem c116 (l : List Nat) (hl : ∀ x ∈ l, x < 256) (hll : l.length ≤ 1000) (k m : Nat) (hk : k ≤ 1000000) (σ : St) (s : Nat) (h : SRC σ s l k m) :
    ∃ (r m' : Nat) (σ' : St), callI TT 116 [.ptr s 0] σ = some (.int .i64 r, σ') ∧ r ≤ 255 ∧ SRC σ' s l (k + 1) m' ∧ σ'.n = σ.n ∧ ∀ c, c ≠ s → σ'.get c = σ.get c := by
  have c0 := h.c0
  have c1 := h.c1
  have hw := wrapS (n := k) (by omega)
  have step : ∀ b : Nat, ∃ (m3 : Nat) (σ1 σ2 : St), m3 < 18446744073709551616 ∧ storeCellsA σ s 1 [.int .i64 ((k : Int) + 1)] = some σ1 ∧ cellsAt σ1 (.ptr s 2) 1 = some [.int .u64 m] ∧ wrapA .u64 (wrapA .u64 (wrapA .u64 ((m : Int) * 6364136223846793005) + (b : Int)) + 1442695040888963407) = (m3 : Int) ∧ storeCellsA σ1 s 2 [.int .u64 (m3 : Int)] = some σ2 ∧ SRC σ2 s l (k + 1) m3 ∧ σ2.n = σ.n ∧ ∀ c, c ≠ s → σ2.get c = σ.get c := by
    intro b
    obtain ⟨m3, e3, h3⟩ := wrap_u (wrapA .u64 (wrapA .u64 ((m : Int) * 6364136223846793005) + (b : Int)) + 1442695040888963407)
    obtain ⟨σ1, σ2, a1, a2, a3, a4, a5, a6⟩ := h.set (k' := k + 1) h3
    exact ⟨m3, σ1, σ2, h3, by simpa using a1, a2, e3, a3, a4, a5, a6⟩
  by_cases hlt : k < l.length
  · obtain ⟨b, hb⟩ : ∃ b, l[k]? = some b := ⟨l[k], List.getElem?_eq_getElem hlt⟩
    have hb2 : b < 256 := hl b (List.mem_of_getElem? hb)
    obtain ⟨m3, σ1, σ2, h3, a1, a2, a3, a4, a5, a6, a7⟩ := step b
    have d0 := a5.c0
    have d1 := a5.c1
    have kb : ∀ σ, cellsAt σ (.lp (byts l) k) 1 = some [.int .u8 b] := fun σ => getCells_byt hb
    have u1 : wrapA .i64 (b : Int) = b := n_wrap (by omega)
    have u2 : wrapA .u64 (b : Int) = b := n_wrapu (by omega)
    have hlt2 : ¬ l.length ≤ k := by omega
    have hle : k + 1 ≤ l.length := by omega
    have hle' : (k : Int) + 1 ≤ l.length := by omega
    have hle2 : ¬ ((l.length : Int) < (k : Int) + 1) := by omega
    refine ⟨b, m3, σ2, ?_, by omega, a5, a6, a7⟩
    simp only [Int.natCast_add, show ((1 : Nat) : Int) = 1 from rfl] at d1
    rw [cI_0 fn116 rfl md116, fi116]
    simp [xI_seq, xI_region, xI_ret, regA, regOps, runOps, opStep, wantedA, opA, evo, evos, calleeA, lk, nif_eq, putE, paramsE, valS, val2, keepE, restrict, finA, resA, binA, binInt, ofConst, ofConst1, loadA, TK.isAgg, asVar, unA, builtinA, lenOpA, lenA, ileb_cast, ileb_eq, ieqb_dec, indexAddrA, inB_dec, evPairs, storeA, AV.cellsOf, pairsOf, xI_nil, binBool, gcE, evOpt, tagZ, xI_block, xI_loopH, xI_condM, xI_exitM, xI_skip, xI_blk, exitA, ty2, ty3, ty5, ty32, ty141, ty143, fieldAddrA, allOne, AV.one, ty2, ty3, ty5, ty32, ty96, ty141, ty143, c0, c1, hw, hlt, hlt2, kb, u1, u2, a1, a2, a3, a4, d0, d1, hle, hle', hle2, convA]
  · obtain ⟨m3, σ1, σ2, h3, a1, a2, a3, a4, a5, a6, a7⟩ := step 0
    have d0 := a5.c0
    have d1 := a5.c1
    have d2 := a5.c2
    have u2 : wrapA .u64 (0 : Int) = 0 := by decide
    have hlt2 : l.length ≤ k := by omega
    have hle : ¬ k + 1 ≤ l.length := by omega
    have hle' : ¬ (k : Int) + 1 ≤ l.length := by omega
    have hle2 : (l.length : Int) < (k : Int) + 1 := by omega
    have e1 : shrA (m3 : Int) (min 40 IntKind.u64.bits) = ((shrN m3 40 : Nat) : Int) := rfl
    have e2 : bitsA .and .u64 ((shrN m3 40 : Nat) : Int) 255 = some (.int .u64 ((andN (shrN m3 40) 255 : Nat) : Int)) := w_and .u64 (a := shrN m3 40) (b := 255) (by show m3 / 2 ^ 40 ≤ _; simp only [topOf]; omega) (by decide)
    have e3 : andN (shrN m3 40) 255 ≤ 255 := Nat.and_le_right
    have e4 : wrapA .i64 ((andN (shrN m3 40) 255 : Nat) : Int) = ((andN (shrN m3 40) 255 : Nat) : Int) := n_wrap (by omega)
    refine ⟨andN (shrN m3 40) 255, m3, σ2, ?_, e3, a5, a6, a7⟩
    simp only [Int.natCast_add, show ((1 : Nat) : Int) = 1 from rfl] at d1
    simp only [show ((0 : Nat) : Int) = 0 from rfl, Int.add_zero] at a3
    rw [cI_0 fn116 rfl md116, fi116]
    simp [xI_seq, xI_region, xI_ret, regA, regOps, runOps, opStep, wantedA, opA, evo, evos, calleeA, lk, nif_eq, putE, paramsE, valS, val2, keepE, restrict, finA, resA, binA, binInt, ofConst, ofConst1, loadA, TK.isAgg, asVar, unA, builtinA, lenOpA, lenA, ileb_cast, ileb_eq, ieqb_dec, indexAddrA, inB_dec, evPairs, storeA, AV.cellsOf, pairsOf, xI_nil, binBool, gcE, evOpt, tagZ, xI_block, xI_loopH, xI_condM, xI_exitM, xI_skip, xI_blk, exitA, ty2, ty3, ty5, ty32, ty141, ty143, fieldAddrA, allOne, AV.one, ty2, ty3, ty5, ty32, ty96, ty141, ty143, c0, c1, hw, hlt, hlt2, u2, a1, a2, a3, a4, d0, d1, d2, hle, hle', hle2, e1, e2, e4, convA]

theorem c66 (l : List Nat) (hl : ∀ x ∈ l, x < 256) (hll : l.length ≤ 1000) (k m : Nat) (hk : k ≤ 999000) (n : Nat) (hn : n ≤ 1000000) (σ : St) (s : Nat) (h : SRC σ s l k m) :
    ∃ (r k' m' : Nat) (σ' : St), callI TT 66 [.ptr s 0, .int .i64 n] σ = some (.int .i64 r, σ') ∧ r < max 1 n ∧ SRC σ' s l k' m' ∧ k' ≤ k + 2 ∧ σ'.n = σ.n ∧ ∀ c, c ≠ s → σ'.get c = σ.get c := by
  by_cases h1 : n ≤ 1
  · have h1' : (n : Int) ≤ 1 := by omega
    refine ⟨0, k, m, σ, ?_, by omega, h, by omega, rfl, fun _ _ => rfl⟩
    rw [cI_0 fn66 rfl md66, fi66]
    simp [xI_seq, xI_region, xI_ret, regA, regOps, runOps, opStep, wantedA, opA, evo, evos, calleeA, lk, nif_eq, putE, paramsE, valS, val2, keepE, restrict, finA, resA, binA, binInt, ofConst, ofConst1, loadA, TK.isAgg, asVar, unA, builtinA, lenOpA, lenA, ileb_cast, ileb_eq, ieqb_dec, indexAddrA, inB_dec, evPairs, storeA, AV.cellsOf, pairsOf, xI_nil, binBool, gcE, evOpt, tagZ, xI_block, xI_loopH, xI_condM, xI_exitM, xI_skip, xI_blk, exitA, ty2, h1, h1']
  · have h1' : ¬ (n : Int) ≤ 1 := by omega
    have h0 : ¬ (n : Int) = 0 := by omega
    have h00 : ¬ n = 0 := by omega
    obtain ⟨r1, m1, σ1, c1, b1, s1, e1, k1⟩ := c116 l hl hll k m (by omega) σ s h
    by_cases h2 : 200 < n
    · have h2' : (200 : Int) < (n : Int) := by omega
      obtain ⟨r2, m2, σ2, c2, b2, s2, e2, k2⟩ := c116 l hl hll (k + 1) m1 (by omega) σ1 s s1
      have w1 : wrapA .i64 ((r1 : Int) * 256) = ((mulN r1 256 : Nat) : Int) := n_wrap (a := mulN r1 256) (by show r1 * 256 ≤ _; omega)
      have w2 : wrapA .i64 (((mulN r1 256 : Nat) : Int) + (r2 : Int)) = ((addN (mulN r1 256) r2 : Nat) : Int) := by rw [← Int.natCast_add]; exact n_wrap (a := addN (mulN r1 256) r2) (by show r1 * 256 + r2 ≤ _; omega)
      have w3 : ((addN (mulN r1 256) r2 : Nat) : Int).tmod (n : Int) = ((modN (addN (mulN r1 256) r2) n : Nat) : Int) := rfl
      have w4 : ((addN (mulN r1 256) r2 : Nat) : Int) % (n : Int) = ((modN (addN (mulN r1 256) r2) n : Nat) : Int) := rfl
      have w5 : modN (addN (mulN r1 256) r2) n < n := Nat.mod_lt _ (by omega)
      refine ⟨modN (addN (mulN r1 256) r2) n, k + 2, m2, σ2, ?_, by omega, s2, Nat.le_refl _, by omega, fun c hc => (k2 c hc).trans (k1 c hc)⟩
      rw [cI_0 fn66 rfl md66, fi66]
      simp [xI_seq, xI_region, xI_ret, regA, regOps, runOps, opStep, wantedA, opA, evo, evos, calleeA, lk, nif_eq, putE, paramsE, valS, val2, keepE, restrict, finA, resA, binA, binInt, ofConst, ofConst1, loadA, TK.isAgg, asVar, unA, builtinA, lenOpA, lenA, ileb_cast, ileb_eq, ieqb_dec, indexAddrA, inB_dec, evPairs, storeA, AV.cellsOf, pairsOf, xI_nil, binBool, gcE, evOpt, tagZ, xI_block, xI_loopH, xI_condM, xI_exitM, xI_skip, xI_blk, exitA, ty2, h1, h1', h0, h00, c1, h2, h2', w1, c2, w2, w3, w4]
    · have h2' : ¬ (200 : Int) < (n : Int) := by omega
      have w3 : (r1 : Int).tmod (n : Int) = ((modN r1 n : Nat) : Int) := rfl
      have w4 : (r1 : Int) % (n : Int) = ((modN r1 n : Nat) : Int) := rfl
      have w5 : modN r1 n < n := Nat.mod_lt _ (by omega)
      refine ⟨modN r1 n, k + 1, m1, σ1, ?_, by omega, s1, by omega, e1, k1⟩
      rw [cI_0 fn66 rfl md66, fi66]
      simp [xI_seq, xI_region, xI_ret, regA, regOps, runOps, opStep, wantedA, opA, evo, evos, calleeA, lk, nif_eq, putE, paramsE, valS, val2, keepE, restrict, finA, resA, binA, binInt, ofConst, ofConst1, loadA, TK.isAgg, asVar, unA, builtinA, lenOpA, lenA, ileb_cast, ileb_eq, ieqb_dec, indexAddrA, inB_dec, evPairs, storeA, AV.cellsOf, pairsOf, xI_nil, binBool, gcE, evOpt, tagZ, xI_block, xI_loopH, xI_condM, xI_exitM, xI_skip, xI_blk, exitA, ty2, h1, h1', h0, h00, c1, h2, h2', w3, w4]

theorem c67 (l : List Nat) (hl : ∀ x ∈ l, x < 256) (hll : l.length ≤ 1000) (k m : Nat) (hk : k ≤ 999000) (n : Nat) (hn : n ≤ 1000000) (σ : St) (s : Nat) (h : SRC σ s l k m) :
    ∃ (r : Bool) (k' m' : Nat) (σ' : St), callI TT 67 [.ptr s 0, .int .i64 n] σ = some (.bool r, σ') ∧ SRC σ' s l k' m' ∧ k' ≤ k + 2 ∧ σ'.n = σ.n ∧ ∀ c, c ≠ s → σ'.get c = σ.get c := by
  obtain ⟨r, k', m', σ', c1, _, s1, hk', hn', hc⟩ := c66 l hl hll k m hk n hn σ s h
  refine ⟨decide (r = 0), k', m', σ', ?_, s1, hk', hn', hc⟩
  rw [cI_0 fn67 rfl md67, fi67]
  simp [xI_seq, xI_region, xI_ret, regA, regOps, runOps, opStep, wantedA, opA, evo, evos, calleeA, lk, nif_eq, putE, paramsE, valS, val2, keepE, restrict, finA, resA, binA, binInt, ofConst, ofConst1, loadA, TK.isAgg, asVar, unA, builtinA, lenOpA, lenA, ileb_cast, ileb_eq, ieqb_dec, indexAddrA, inB_dec, evPairs, storeA, AV.cellsOf, pairsOf, xI_nil, binBool, gcE, evOpt, tagZ, xI_block, xI_loopH, xI_condM, xI_exitM, xI_skip, xI_blk, exitA, ty2, c1]

theorem c65 (l : List Nat) (σ : St) : ∃ σ', callI TT 65 [.lst l.length (byts l)] σ = some (.ptr σ.n 0, σ') ∧ SRC σ' σ.n l 0 0 ∧ σ'.n = σ.n + 1 ∧ Old σ σ' := by
  refine ⟨σ.push ⟨[.lst l.length (byts l), .int .i64 0, .int .u64 0], 3, false⟩, ?_, ⟨Nat.lt_succ_self _, get_push_same, by decide⟩, rfl, Old.push⟩
  rw [cI_0 fn65 rfl md65, fi65]
  simp [xI_seq, xI_region, xI_ret, regA, regOps, runOps, opStep, wantedA, opA, evo, evos, calleeA, lk, nif_eq, putE, paramsE, valS, val2, keepE, restrict, finA, resA, binA, binInt, ofConst, ofConst1, loadA, TK.isAgg, asVar, unA, builtinA, lenOpA, lenA, ileb_cast, ileb_eq, ieqb_dec, indexAddrA, inB_dec, evPairs, storeA, AV.cellsOf, pairsOf, xI_nil, binBool, gcE, evOpt, tagZ, xI_block, xI_loopH, xI_condM, xI_exitM, xI_skip, xI_blk, exitA, ty143, allOne, AV.one, buildA, sizesOf, fillA, putCells, ty3, ty32, ty141, ty143]

theorem v18 (a b : List Nat) : FnV TT 18 [.lst a.length (byts a), .lst b.length (byts b)] (.bool (decide (48 < a.length) || decide (48 < b.length))) := by
  refine FnV.mk fn18 rfl md18 ⟨⟨[], 0⟩, ?_⟩ (fun _ => rfl) rfl
  rw [fi18]
  by_cases h1 : 48 < a.length
  · have h1' : (48 : Int) < a.length := by omega
    have h1'' : ¬ (a.length : Int) ≤ 48 := by omega
    simp [xI_seq, xI_region, xI_ret, regA, regOps, runOps, opStep, wantedA, opA, evo, evos, calleeA, lk, nif_eq, putE, paramsE, valS, val2, keepE, restrict, finA, resA, binA, binInt, ofConst, ofConst1, loadA, TK.isAgg, asVar, unA, builtinA, lenOpA, lenA, ileb_cast, ileb_eq, ieqb_dec, indexAddrA, inB_dec, evPairs, storeA, AV.cellsOf, pairsOf, xI_nil, binBool, gcE, evOpt, tagZ, xI_block, xI_loopH, xI_condM, xI_exitM, xI_skip, xI_blk, exitA, ty3, ty5, ty32, h1, h1', h1'']
  · have h1' : ¬ (48 : Int) < a.length := by omega
    have h1'' : (a.length : Int) ≤ 48 := by omega
    by_cases h2 : 48 < b.length
    · have h2' : (48 : Int) < b.length := by omega
      have h2'' : ¬ (b.length : Int) ≤ 48 := by omega
      simp [xI_seq, xI_region, xI_ret, regA, regOps, runOps, opStep, wantedA, opA, evo, evos, calleeA, lk, nif_eq, putE, paramsE, valS, val2, keepE, restrict, finA, resA, binA, binInt, ofConst, ofConst1, loadA, TK.isAgg, asVar, unA, builtinA, lenOpA, lenA, ileb_cast, ileb_eq, ieqb_dec, indexAddrA, inB_dec, evPairs, storeA, AV.cellsOf, pairsOf, xI_nil, binBool, gcE, evOpt, tagZ, xI_block, xI_loopH, xI_condM, xI_exitM, xI_skip, xI_blk, exitA, ty3, ty5, ty32, h1, h1', h1'', h2, h2', h2'']
    · have h2' : ¬ (48 : Int) < b.length := by omega
      have h2'' : (b.length : Int) ≤ 48 := by omega
      simp [xI_seq, xI_region, xI_ret, regA, regOps, runOps, opStep, wantedA, opA, evo, evos, calleeA, lk, nif_eq, putE, paramsE, valS, val2, keepE, restrict, finA, resA, binA, binInt, ofConst, ofConst1, loadA, TK.isAgg, asVar, unA, builtinA, lenOpA, lenA, ileb_cast, ileb_eq, ieqb_dec, indexAddrA, inB_dec, evPairs, storeA, AV.cellsOf, pairsOf, xI_nil, binBool, gcE, evOpt, tagZ, xI_block, xI_loopH, xI_condM, xI_exitM, xI_skip, xI_blk, exitA, ty3, ty5, ty32, h1, h1', h1'', h2, h2', h2'']

open Go.Wd
theorem SRC.keep {σ σ' : St} {s : Nat} {l : List Nat} {k m : Nat} (h : SRC σ s l k m) (hn : σ.n ≤ σ'.n) (e : σ'.get s = σ.get s) : SRC σ' s l k m := ⟨Nat.lt_of_lt_of_le h.1 hn, by rw [e]; exact h.2.1, h.2.2⟩
def RGB (σ : St) (D : Nat) (a b : Int) : Prop := σ.get D = some ⟨[.int .i64 a, .int .i64 b], 2, false⟩
theorem RGB.keep {σ σ' : St} {D : Nat} {a b : Int} (h : RGB σ D a b) (e : σ'.get D = σ.get D) : RGB σ' D a b := by unfold RGB; rw [e]; exact h
theorem RGB.c0 {σ : St} {D : Nat} {a b : Int} (h : RGB σ D a b) : cellsAt σ (.ptr D 0) 1 = some [.int .i64 a] := by simp [cellsAt, (show σ.get D = _ from h), getCells, takeN, dropN]
theorem RGB.c1 {σ : St} {D : Nat} {a b : Int} (h : RGB σ D a b) : cellsAt σ (.ptr D 1) 1 = some [.int .i64 b] := by simp [cellsAt, (show σ.get D = _ from h), getCells, takeN, dropN]
theorem RGB.cc {σ : St} {D : Nat} {a b : Int} (h : RGB σ D a b) : cellsAt σ (.ptr D 0) 2 = some [.int .i64 a, .int .i64 b] := by simp [cellsAt, (show σ.get D = _ from h), getCells, takeN, dropN]
theorem RGB.s1 {σ : St} {D : Nat} {a b : Int} (h : RGB σ D a b) (y : Int) : ∃ σ', storeCellsA σ D 1 [.int .i64 y] = some σ' ∧ RGB σ' D a y ∧ σ'.n = σ.n ∧ ∀ d, d ≠ D → σ'.get d = σ.get d := by
  refine ⟨σ.set D ⟨[.int .i64 a, .int .i64 y], 2, false⟩, ?_, get_set_eq h, rfl, fun d hd => get_set_ne (fun e => hd e.symm)⟩
  simp [storeCellsA, (show σ.get D = _ from h), putN, overN, allOne, AV.one]
theorem RGB.s2 {σ : St} {D : Nat} {a b : Int} (h : RGB σ D a b) (x y : Int) : ∃ σ', storeCellsA σ D 0 [.int .i64 x, .int .i64 y] = some σ' ∧ RGB σ' D x y ∧ σ'.n = σ.n ∧ ∀ d, d ≠ D → σ'.get d = σ.get d := by
  refine ⟨σ.set D ⟨[.int .i64 x, .int .i64 y], 2, false⟩, ?_, get_set_eq h, rfl, fun d hd => get_set_ne (fun e => hd e.symm)⟩
  simp [storeCellsA, (show σ.get D = _ from h), putN, overN, allOne, AV.one]

set_option maxHeartbeats 1000000 in
theorem v19 (l : List Nat) (hl : ∀ x ∈ l, x < 256) (hll : l.length ≤ 1000) : ∃ w t : Nat, w ≤ 7 ∧ t < 2 ^ w ∧ FnV TT 19 [.lst l.length (byts l)] (.agg [.int .i64 w, .int .i64 t]) := by
  obtain ⟨σ1, e1⟩ : ∃ σ1, (⟨[], 0⟩ : St).push ⟨[.int .i64 0, .int .i64 0], 2, false⟩ = σ1 := ⟨_, rfl⟩
  have n1 : σ1.n = 1 := by subst e1; rfl
  have P1 : RGB σ1 0 0 0 := by subst e1; exact get_push_same
  obtain ⟨σ2, c2, S2, n2, o2⟩ := c65 l σ1
  rw [n1] at c2 S2
  have P2 := P1.keep (o2.2 0 (by omega))
  obtain ⟨w, k3, m3, σ3, c3, hw, S3, hk3, n3, u3⟩ := c66 l hl hll 0 0 (by decide) 8 (by decide) σ2 1 S2
  replace n3 : σ3.n = 2 := by omega
  have P3 := P2.keep (u3 0 (by decide))
  obtain ⟨σ4, e4⟩ : ∃ σ4, σ3.push ⟨[.int .i64 0, .int .i64 0], 2, false⟩ = σ4 := ⟨_, rfl⟩
  have n4 : σ4.n = 3 := by subst e4; show σ3.n + 1 = 3; omega
  have Q4 : RGB σ4 2 0 0 := by
    have h := get_push_same (σ := σ3) (x := ⟨[.int .i64 0, .int .i64 0], 2, false⟩)
    rw [n3] at h; subst e4; exact h
  obtain ⟨σ5, c5, Q5, n5, u5⟩ := Q4.s2 w 0
  have S5 := S3.keep (σ' := σ5) (by omega) ((u5 1 (by decide)).trans (by subst e4; exact get_push_lt (by omega)))
  have P5 := P3.keep (σ' := σ5) ((u5 0 (by decide)).trans (by subst e4; exact get_push_lt (by omega)))
  have q5 := Q5.c0
  have hw64 : wrapA .u64 (w : Int) = (w : Int) := (w_wrap .u64 (by simp only [topOf]; omega))
  have hp := pow_i w (by omega)
  have hN2 : 1 ≤ 2 ^ w := Nat.one_le_two_pow
  have hN7 : 2 ^ w ≤ 2 ^ 7 := Nat.pow_le_pow_right (by decide) (by omega)
  have hor : 0 < w → ∀ t, t < 2 ^ w → t ||| 1 < 2 ^ w := fun h0 t ht => Nat.or_lt_two_pow ht (Nat.lt_of_lt_of_le (show 1 < 2 ^ 1 by decide) (Nat.pow_le_pow_right (by decide) h0))
  obtain ⟨N, hN⟩ : ∃ N, 2 ^ w = N := ⟨_, rfl⟩
  rw [hN] at hp hN2 hN7 hor
  obtain ⟨t, k6, m6, σ6, c6, ht, S6, hk6, n6, u6⟩ := c66 l hl hll k3 m3 (by omega) N (by omega) σ5 1 S5
  have ht : t < N := by omega
  have P6 := P5.keep (u6 0 (by decide))
  have Q6 := Q5.keep (u6 2 (by decide))
  obtain ⟨σ7, c7, Q7, n7, u7⟩ := Q6.s1 t
  have S7 := S6.keep (σ' := σ7) (by omega) (u7 1 (by decide))
  have P7 := P6.keep (u7 0 (by decide))
  obtain ⟨q, k8, m8, σ8, c8, S8, hk8, n8, u8⟩ := c67 l hl hll k6 m6 (by omega) 2 (by decide) σ7 1 S7
  have P8 := P7.keep (u8 0 (by decide))
  have Q8 := Q7.keep (u8 2 (by decide))
  have q8 := Q8.c0
  have q9 := Q8.c1
  simp only [show ((8 : Nat) : Int) = 8 from rfl] at c3
  simp only [show ((2 : Nat) : Int) = 2 from rfl] at c8
  by_cases hc : q = true ∧ 0 < w
  · obtain ⟨rfl, hw0⟩ := hc
    have hw0' : (0 : Int) < (w : Int) := by omega
    have hw0n : ¬ w = 0 := by omega
    have hw1 : ¬ (w : Int) ≤ 0 := by omega
    have ho : bitsA .or .i64 (t : Int) 1 = some (.int .i64 ((t ||| 1 : Nat) : Int)) := w_or .i64 (a := t) (b := 1) (by simp only [topOf]; omega) (by decide)
    have hb := hor hw0 t ht
    generalize t ||| 1 = t2 at *
    obtain ⟨σ9, c9, Q9, n9, u9⟩ := Q8.s1 t2
    have P9 := P8.keep (u9 0 (by decide))
    obtain ⟨σA, cA, PA, nA, uA⟩ := P9.s2 w t2
    have g1 := Q9.cc
    have g2 := PA.cc
    refine ⟨w, t2, by omega, by rw [hN]; omega, FnV.mk fn19 rfl md19 ⟨σA, ?_⟩ (fun _ => rfl) rfl⟩
    rw [fi19]
    simp [xI_seq, xI_region, xI_ret, regA, regOps, runOps, opStep, wantedA, opA, evo, evos, calleeA, lk, nif_eq, putE, paramsE, valS, val2, keepE, restrict, finA, resA, binA, binInt, ofConst, ofConst1, loadA, TK.isAgg, asVar, unA, builtinA, lenOpA, lenA, ileb_cast, ileb_eq, ieqb_dec, indexAddrA, inB_dec, evPairs, storeA, AV.cellsOf, pairsOf, xI_nil, binBool, gcE, evOpt, tagZ, xI_block, xI_loopH, xI_condM, xI_exitM, xI_skip, xI_blk, exitA, ty2, ty27, ty36, runTr, pairsOk, pairOk, lstAt, lastOf, sameVal, AV.eqv, eqvs, eqvs_ints, regOps, blt_dec, cond_true, cond_false, fieldAddrA, allOne, AV.one, buildA, sizesOf, fillA, putCells, n_push, convA, ty36, ty2, ty27, e1, n1, c2, c3, n3, e4, c5, q5, hw64, hp, c6, c7, c8, q8, q9, hw0, hw0', hw0n, hw1, ho, c9, cA, g1, g2]

  · obtain ⟨σA, cA, PA, nA, uA⟩ := P8.s2 w t
    have g1 := Q8.cc
    have g2 := PA.cc
    cases q with
    | false =>
      refine ⟨w, t, by omega, by rw [hN]; omega, FnV.mk fn19 rfl md19 ⟨σA, ?_⟩ (fun _ => rfl) rfl⟩
      rw [fi19]
      simp [xI_seq, xI_region, xI_ret, regA, regOps, runOps, opStep, wantedA, opA, evo, evos, calleeA, lk, nif_eq, putE, paramsE, valS, val2, keepE, restrict, finA, resA, binA, binInt, ofConst, ofConst1, loadA, TK.isAgg, asVar, unA, builtinA, lenOpA, lenA, ileb_cast, ileb_eq, ieqb_dec, indexAddrA, inB_dec, evPairs, storeA, AV.cellsOf, pairsOf, xI_nil, binBool, gcE, evOpt, tagZ, xI_block, xI_loopH, xI_condM, xI_exitM, xI_skip, xI_blk, exitA, ty2, ty27, ty36, runTr, pairsOk, pairOk, lstAt, lastOf, sameVal, AV.eqv, eqvs, eqvs_ints, regOps, blt_dec, cond_true, cond_false, fieldAddrA, allOne, AV.one, buildA, sizesOf, fillA, putCells, n_push, convA, ty36, ty2, ty27, e1, n1, c2, c3, n3, e4, c5, q5, hw64, hp, c6, c7, c8, q8, q9, cA, g1, g2]

    | true =>
      have hw0 : w = 0 := by
        apply Decidable.byContradiction
        intro h; exact hc ⟨rfl, by omega⟩
      have hw1 : (w : Int) ≤ 0 := by omega
      have hw2 : ¬ (0 : Int) < (w : Int) := by omega
      have hw3 : ¬ 0 < w := by omega
      clear hc
      refine ⟨w, t, by omega, by rw [hN]; omega, FnV.mk fn19 rfl md19 ⟨σA, ?_⟩ (fun _ => rfl) rfl⟩
      rw [fi19]
      simp [xI_seq, xI_region, xI_ret, regA, regOps, runOps, opStep, wantedA, opA, evo, evos, calleeA, lk, nif_eq, putE, paramsE, valS, val2, keepE, restrict, finA, resA, binA, binInt, ofConst, ofConst1, loadA, TK.isAgg, asVar, unA, builtinA, lenOpA, lenA, ileb_cast, ileb_eq, ieqb_dec, indexAddrA, inB_dec, evPairs, storeA, AV.cellsOf, pairsOf, xI_nil, binBool, gcE, evOpt, tagZ, xI_block, xI_loopH, xI_condM, xI_exitM, xI_skip, xI_blk, exitA, ty2, ty27, ty36, runTr, pairsOk, pairOk, lstAt, lastOf, sameVal, AV.eqv, eqvs, eqvs_ints, regOps, blt_dec, cond_true, cond_false, fieldAddrA, allOne, AV.one, buildA, sizesOf, fillA, putCells, n_push, convA, ty36, ty2, ty27, e1, n1, c2, c3, n3, e4, c5, q5, hw64, hp, c6, c7, c8, q8, q9, hw1, hw2, hw3, cA, g1, g2]
      exact fun h => absurd hw0 h

open Go.Wd
open Go.Wd
/-- A function that yields a value in a heap of its own; what it was given, and what it yields, is frozen. -/
def FnF (T : Tab) (f : FuncId) (args' : List AV) (v : AV) : Prop := ∀ (σ : St) (args : List AV), mapO (frzV σ frzDepth) args = some args' → args.flatMap (rowsV σ frzDepth) = [] → callI T f args σ = some (v, σ)
theorem FnF.mk {T : Tab} {f : FuncId} {F : Func} {c : Code} {args' : List AV} {v : AV} (hF : T.fn f = some F) (hB : F.body = some c) (hm : (T.an f).mode = 1)
    (hx : ∃ σ1 v0, exI T (FI.of F (T.an f)) [.code c] (paramsE 0 args') ⟨[], 0⟩ = some (v0, σ1) ∧ frzV σ1 frzDepth v0 = some v) : FnF T f args' v := by
  intro σ args ha hr
  obtain ⟨σ1, v0, hx, hv⟩ := hx
  refine cI_1 hF hB hm ha hx ?_
  unfold frzR
  rw [hv, hr]
  simp only [St.dels]
  split <;> rfl
end Go.Proofs.YthkdbkjkccogfaaDoor
