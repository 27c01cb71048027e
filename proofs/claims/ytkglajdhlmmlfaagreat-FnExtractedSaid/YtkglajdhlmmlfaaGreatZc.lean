/- Contracts of the seat, laid out of the texts of the same hand for a seat with other numbers. Nothing is claimed here; no condition. -/
import Derived.Test.YtkglajdhlmmlfaaGreatZb
set_option linter.unusedSimpArgs false
set_option linter.unusedVariables false
namespace Go.Proofs.YtkglajdhlmmlfaaGreat
open Go Go.Abs Go.Nm
attribute [local simp] xI_seq xI_region xI_ret regA regOps runOps opStep wantedA opA evo evos calleeA lk nif_eq putE paramsE valS val2 keepE restrict finA resA binA binInt ofConst ofConst1 loadA TK.isAgg asVar unA builtinA lenOpA lenA indexAddrA evPairs storeA AV.cellsOf pairsOf xI_nil binBool gcE evOpt runTr pairsOk pairOk sameVal AV.eqv lastOf lstAt eqvs boundA indexA regF twoOf prsOf memI runTrF selF runTr2 freshOp scals AV.scal xI_block xI_loopH xI_condM xI_exitM xI_skip xI_blk exitA List.getElem?_cons_zero List.getElem?_cons_succ List.getElem?_toArray List.getElem?_nil ileb_t ileb_f ieqb_t ieqb_f inB_t wrapA_id lp_read ieqb_self Nat.blt_eq cond_true cond_false ty2 ty3 ty4 ty9 ty24 ty26 ty28 ty33 ty51 ty55 ty57 ty73 ty100
theorem wrap_u (z : Int) : ∃ m : Nat, wrapA .u64 z = m ∧ m < 18446744073709551616 := by
  refine ⟨(wrapA .u64 z).toNat, ?_, ?_⟩ <;> (rw [wrapA_eq]; simp [IntKind.wrap, IntKind.bits, IntKind.signed]; omega)
/-- A source of choices in the heap. -/
def SRC (σ : St) (s : Nat) (l : List Nat) (k m : Nat) : Prop := s < σ.n ∧ σ.get s = some ⟨[.lst l.length (byts l), .int .i64 k, .int .u64 m], 3, false⟩ ∧ m < 18446744073709551616
theorem SRC.set {σ : St} {s : Nat} {l : List Nat} {k m k' m' : Nat} (h : SRC σ s l k m) (hm : m' < 18446744073709551616) : ∃ σ1 σ2, storeCellsA σ s 1 [.int .i64 (k' : Int)] = some σ1 ∧ cellsAt σ1 (.ptr s 2) 1 = some [.int .u64 m] ∧ storeCellsA σ1 s 2 [.int .u64 (m' : Int)] = some σ2 ∧ SRC σ2 s l k' m' ∧ σ2.n = σ.n ∧ ∀ c, c ≠ s → σ2.get c = σ.get c := by
  obtain ⟨h1, h2, _⟩ := h
  have e1 : (σ.set s ⟨[.lst l.length (byts l), .int .i64 k', .int .u64 m], 3, false⟩).get s = some ⟨[.lst l.length (byts l), .int .i64 k', .int .u64 m], 3, false⟩ := get_set_eq h2
  refine ⟨σ.set s ⟨[.lst l.length (byts l), .int .i64 k', .int .u64 m], 3, false⟩, (σ.set s ⟨[.lst l.length (byts l), .int .i64 k', .int .u64 m], 3, false⟩).set s ⟨[.lst l.length (byts l), .int .i64 k', .int .u64 m'], 3, false⟩, ?_, ?_, ?_, ⟨h1, get_set_eq e1, hm⟩, rfl, fun c hc => ?_⟩
  · simp [storeCellsA, h2, allOne, AV.one, putN, overN]
  · simp [cellsAt, e1, getCells, takeN, dropN]
  · simp [storeCellsA, e1, allOne, AV.one, putN, overN]
  · rw [get_set_ne (fun h => hc h.symm), get_set_ne (fun h => hc h.symm)]
theorem SRC.c0 {σ : St} {s : Nat} {l : List Nat} {k m : Nat} (h : SRC σ s l k m) : cellsAt σ (.ptr s 0) 1 = some [.lst l.length (byts l)] := by simp [cellsAt, h.2.1, getCells, takeN, dropN]
theorem SRC.c1 {σ : St} {s : Nat} {l : List Nat} {k m : Nat} (h : SRC σ s l k m) : cellsAt σ (.ptr s 1) 1 = some [.int .i64 k] := by simp [cellsAt, h.2.1, getCells, takeN, dropN]
theorem SRC.c2 {σ : St} {s : Nat} {l : List Nat} {k m : Nat} (h : SRC σ s l k m) : cellsAt σ (.ptr s 2) 1 = some [.int .u64 m] := by simp [cellsAt, h.2.1, getCells, takeN, dropN]
theorem c46 (l : List Nat) (hl : ∀ x ∈ l, x < 256) (hll : l.length ≤ 2000000) (k m : Nat) (hk : k ≤ 1000000) (σ : St) (s : Nat) (h : SRC σ s l k m) :
    ∃ (r m' : Nat) (σ' : St), callI TT 46 [.ptr s 0] σ = some (.int .i64 r, σ') ∧ r ≤ 255 ∧ SRC σ' s l (k + 1) m' ∧ σ'.n = σ.n ∧ ∀ c, c ≠ s → σ'.get c = σ.get c := by
  have c0 := h.c0
  have c1 := h.c1
  have hw := wrapS (n := k) (by omega)
  have step : ∀ b : Nat, ∃ (m3 : Nat) (σ1 σ2 : St), m3 < 18446744073709551616 ∧ storeCellsA σ s 1 [.int .i64 ((k : Int) + 1)] = some σ1 ∧ cellsAt σ1 (.ptr s 2) 1 = some [.int .u64 m] ∧ wrapA .u64 (wrapA .u64 (wrapA .u64 ((m : Int) * 6364136223846793005) + (b : Int)) + 1442695040888963407) = (m3 : Int) ∧ storeCellsA σ1 s 2 [.int .u64 (m3 : Int)] = some σ2 ∧ SRC σ2 s l (k + 1) m3 ∧ σ2.n = σ.n ∧ ∀ c, c ≠ s → σ2.get c = σ.get c := by
    intro b
    obtain ⟨m3, e3, h3⟩ := wrap_u (wrapA .u64 (wrapA .u64 ((m : Int) * 6364136223846793005) + (b : Int)) + 1442695040888963407)
    obtain ⟨σ1, σ2, a1, a2, a3, a4, a5, a6⟩ := h.set (k' := k + 1) h3
    exact ⟨m3, σ1, σ2, h3, by simpa using a1, a2, e3, a3, a4, a5, a6⟩
  by_cases hlt : k < l.length
  · obtain ⟨b, hb⟩ : ∃ b, l[k]? = some b := ⟨l[k], List.getElem?_eq_getElem hlt⟩
    have hb2 : b < 256 := hl b (List.mem_of_getElem? hb)
    obtain ⟨m3, σ1, σ2, h3, a1, a2, a3, a4, a5, a6, a7⟩ := step b
    have d0 := a5.c0
    have d1 := a5.c1
    have kb : ∀ σ, cellsAt σ (.lp (byts l) k) 1 = some [.int .u8 b] := fun σ => getCells_byt hb
    have u1 : wrapA .i64 (b : Int) = b := n_wrap (by omega)
    have u2 : wrapA .u64 (b : Int) = b := n_wrapu (by omega)
    have hlt2 : ¬ l.length ≤ k := by omega
    have hle : k + 1 ≤ l.length := by omega
    have hle' : (k : Int) + 1 ≤ l.length := by omega
    have hle2 : ¬ ((l.length : Int) < (k : Int) + 1) := by omega
    refine ⟨b, m3, σ2, ?_, by omega, a5, a6, a7⟩
    simp only [Int.natCast_add, show ((1 : Nat) : Int) = 1 from rfl] at d1
    rw [cI_0 fn46 rfl md46, fi46]
    simp [xI_seq, xI_region, xI_ret, regA, regOps, runOps, opStep, wantedA, opA, evo, evos, calleeA, lk, nif_eq, putE, paramsE, valS, val2, keepE, restrict, finA, resA, binA, binInt, ofConst, ofConst1, loadA, TK.isAgg, asVar, unA, builtinA, lenOpA, lenA, ileb_cast, ileb_eq, ieqb_dec, indexAddrA, inB_dec, evPairs, storeA, AV.cellsOf, pairsOf, xI_nil, binBool, gcE, evOpt, xI_block, xI_loopH, xI_condM, xI_exitM, xI_skip, xI_blk, exitA, ty2, ty3, ty5, ty22, ty73, ty75, fieldAddrA, allOne, AV.one, ty2, ty22, ty3, ty5, ty73, ty75, c0, c1, hw, hlt, hlt2, kb, u1, u2, a1, a2, a3, a4, d0, d1, hle, hle', hle2, convA]
  · obtain ⟨m3, σ1, σ2, h3, a1, a2, a3, a4, a5, a6, a7⟩ := step 0
    have d0 := a5.c0
    have d1 := a5.c1
    have d2 := a5.c2
    have u2 : wrapA .u64 (0 : Int) = 0 := by decide
    have hlt2 : l.length ≤ k := by omega
    have hle : ¬ k + 1 ≤ l.length := by omega
    have hle' : ¬ (k : Int) + 1 ≤ l.length := by omega
    have hle2 : (l.length : Int) < (k : Int) + 1 := by omega
    have e1 : shrA (m3 : Int) (min 40 IntKind.u64.bits) = ((shrN m3 40 : Nat) : Int) := rfl
    have e2 : bitsA .and .u64 ((shrN m3 40 : Nat) : Int) 255 = some (.int .u64 ((andN (shrN m3 40) 255 : Nat) : Int)) := w_and .u64 (a := shrN m3 40) (b := 255) (by show m3 / 2 ^ 40 ≤ _; simp only [topOf]; omega) (by decide)
    have e3 : andN (shrN m3 40) 255 ≤ 255 := Nat.and_le_right
    have e4 : wrapA .i64 ((andN (shrN m3 40) 255 : Nat) : Int) = ((andN (shrN m3 40) 255 : Nat) : Int) := n_wrap (by omega)
    refine ⟨andN (shrN m3 40) 255, m3, σ2, ?_, e3, a5, a6, a7⟩
    simp only [Int.natCast_add, show ((1 : Nat) : Int) = 1 from rfl] at d1
    simp only [show ((0 : Nat) : Int) = 0 from rfl, Int.add_zero] at a3
    rw [cI_0 fn46 rfl md46, fi46]
    simp [xI_seq, xI_region, xI_ret, regA, regOps, runOps, opStep, wantedA, opA, evo, evos, calleeA, lk, nif_eq, putE, paramsE, valS, val2, keepE, restrict, finA, resA, binA, binInt, ofConst, ofConst1, loadA, TK.isAgg, asVar, unA, builtinA, lenOpA, lenA, ileb_cast, ileb_eq, ieqb_dec, indexAddrA, inB_dec, evPairs, storeA, AV.cellsOf, pairsOf, xI_nil, binBool, gcE, evOpt, xI_block, xI_loopH, xI_condM, xI_exitM, xI_skip, xI_blk, exitA, ty2, ty3, ty5, ty22, ty73, ty75, fieldAddrA, allOne, AV.one, ty2, ty22, ty3, ty5, ty73, ty75, c0, c1, hw, hlt, hlt2, u2, a1, a2, a3, a4, d0, d1, d2, hle, hle', hle2, e1, e2, e4, convA]

theorem c21 (l : List Nat) (hl : ∀ x ∈ l, x < 256) (hll : l.length ≤ 2000000) (k m : Nat) (hk : k ≤ 999000) (n : Nat) (hn : n ≤ 1000000) (σ : St) (s : Nat) (h : SRC σ s l k m) :
    ∃ (r k' m' : Nat) (σ' : St), callI TT 21 [.ptr s 0, .int .i64 n] σ = some (.int .i64 r, σ') ∧ r < max 1 n ∧ SRC σ' s l k' m' ∧ k' ≤ k + 2 ∧ σ'.n = σ.n ∧ ∀ c, c ≠ s → σ'.get c = σ.get c := by
  by_cases h1 : n ≤ 1
  · have h1' : (n : Int) ≤ 1 := by omega
    refine ⟨0, k, m, σ, ?_, by omega, h, by omega, rfl, fun _ _ => rfl⟩
    rw [cI_0 fn21 rfl md21, fi21]
    simp [xI_seq, xI_region, xI_ret, regA, regOps, runOps, opStep, wantedA, opA, evo, evos, calleeA, lk, nif_eq, putE, paramsE, valS, val2, keepE, restrict, finA, resA, binA, binInt, ofConst, ofConst1, loadA, TK.isAgg, asVar, unA, builtinA, lenOpA, lenA, ileb_cast, ileb_eq, ieqb_dec, indexAddrA, inB_dec, evPairs, storeA, AV.cellsOf, pairsOf, xI_nil, binBool, gcE, evOpt, xI_block, xI_loopH, xI_condM, xI_exitM, xI_skip, xI_blk, exitA, ty2, h1, h1']
  · have h1' : ¬ (n : Int) ≤ 1 := by omega
    have h0 : ¬ (n : Int) = 0 := by omega
    have h00 : ¬ n = 0 := by omega
    obtain ⟨r1, m1, σ1, c1, b1, s1, e1, k1⟩ := c46 l hl hll k m (by omega) σ s h
    by_cases h2 : 200 < n
    · have h2' : (200 : Int) < (n : Int) := by omega
      obtain ⟨r2, m2, σ2, c2, b2, s2, e2, k2⟩ := c46 l hl hll (k + 1) m1 (by omega) σ1 s s1
      have w1 : wrapA .i64 ((r1 : Int) * 256) = ((mulN r1 256 : Nat) : Int) := n_wrap (a := mulN r1 256) (by show r1 * 256 ≤ _; omega)
      have w2 : wrapA .i64 (((mulN r1 256 : Nat) : Int) + (r2 : Int)) = ((addN (mulN r1 256) r2 : Nat) : Int) := by rw [← Int.natCast_add]; exact n_wrap (a := addN (mulN r1 256) r2) (by show r1 * 256 + r2 ≤ _; omega)
      have w3 : ((addN (mulN r1 256) r2 : Nat) : Int).tmod (n : Int) = ((modN (addN (mulN r1 256) r2) n : Nat) : Int) := rfl
      have w4 : ((addN (mulN r1 256) r2 : Nat) : Int) % (n : Int) = ((modN (addN (mulN r1 256) r2) n : Nat) : Int) := rfl
      have w5 : modN (addN (mulN r1 256) r2) n < n := Nat.mod_lt _ (by omega)
      refine ⟨modN (addN (mulN r1 256) r2) n, k + 2, m2, σ2, ?_, by omega, s2, Nat.le_refl _, by omega, fun c hc => (k2 c hc).trans (k1 c hc)⟩
      rw [cI_0 fn21 rfl md21, fi21]
      simp [xI_seq, xI_region, xI_ret, regA, regOps, runOps, opStep, wantedA, opA, evo, evos, calleeA, lk, nif_eq, putE, paramsE, valS, val2, keepE, restrict, finA, resA, binA, binInt, ofConst, ofConst1, loadA, TK.isAgg, asVar, unA, builtinA, lenOpA, lenA, ileb_cast, ileb_eq, ieqb_dec, indexAddrA, inB_dec, evPairs, storeA, AV.cellsOf, pairsOf, xI_nil, binBool, gcE, evOpt, xI_block, xI_loopH, xI_condM, xI_exitM, xI_skip, xI_blk, exitA, ty2, h1, h1', h0, h00, c1, h2, h2', w1, c2, w2, w3, w4]
    · have h2' : ¬ (200 : Int) < (n : Int) := by omega
      have w3 : (r1 : Int).tmod (n : Int) = ((modN r1 n : Nat) : Int) := rfl
      have w4 : (r1 : Int) % (n : Int) = ((modN r1 n : Nat) : Int) := rfl
      have w5 : modN r1 n < n := Nat.mod_lt _ (by omega)
      refine ⟨modN r1 n, k + 1, m1, σ1, ?_, by omega, s1, by omega, e1, k1⟩
      rw [cI_0 fn21 rfl md21, fi21]
      simp [xI_seq, xI_region, xI_ret, regA, regOps, runOps, opStep, wantedA, opA, evo, evos, calleeA, lk, nif_eq, putE, paramsE, valS, val2, keepE, restrict, finA, resA, binA, binInt, ofConst, ofConst1, loadA, TK.isAgg, asVar, unA, builtinA, lenOpA, lenA, ileb_cast, ileb_eq, ieqb_dec, indexAddrA, inB_dec, evPairs, storeA, AV.cellsOf, pairsOf, xI_nil, binBool, gcE, evOpt, xI_block, xI_loopH, xI_condM, xI_exitM, xI_skip, xI_blk, exitA, ty2, h1, h1', h0, h00, c1, h2, h2', w3, w4]

theorem c47 (l : List Nat) (hl : ∀ x ∈ l, x < 256) (hll : l.length ≤ 2000000) (k m : Nat) (hk : k ≤ 999000) (n : Nat) (hn : n ≤ 1000000) (σ : St) (s : Nat) (h : SRC σ s l k m) :
    ∃ (r : Bool) (k' m' : Nat) (σ' : St), callI TT 47 [.ptr s 0, .int .i64 n] σ = some (.bool r, σ') ∧ SRC σ' s l k' m' ∧ k' ≤ k + 2 ∧ σ'.n = σ.n ∧ ∀ c, c ≠ s → σ'.get c = σ.get c := by
  obtain ⟨r, k', m', σ', c1, _, s1, hk', hn', hc⟩ := c21 l hl hll k m hk n hn σ s h
  refine ⟨decide (r = 0), k', m', σ', ?_, s1, hk', hn', hc⟩
  rw [cI_0 fn47 rfl md47, fi47]
  simp [xI_seq, xI_region, xI_ret, regA, regOps, runOps, opStep, wantedA, opA, evo, evos, calleeA, lk, nif_eq, putE, paramsE, valS, val2, keepE, restrict, finA, resA, binA, binInt, ofConst, ofConst1, loadA, TK.isAgg, asVar, unA, builtinA, lenOpA, lenA, ileb_cast, ileb_eq, ieqb_dec, indexAddrA, inB_dec, evPairs, storeA, AV.cellsOf, pairsOf, xI_nil, binBool, gcE, evOpt, xI_block, xI_loopH, xI_condM, xI_exitM, xI_skip, xI_blk, exitA, ty2, c1]

theorem c20 (l : List Nat) (σ : St) : ∃ σ', callI TT 20 [.lst l.length (byts l)] σ = some (.ptr σ.n 0, σ') ∧ SRC σ' σ.n l 0 0 ∧ σ'.n = σ.n + 1 ∧ Old σ σ' := by
  refine ⟨σ.push ⟨[.lst l.length (byts l), .int .i64 0, .int .u64 0], 3, false⟩, ?_, ⟨Nat.lt_succ_self _, get_push_same, by decide⟩, rfl, Old.push⟩
  rw [cI_0 fn20 rfl md20, fi20]
  simp [xI_seq, xI_region, xI_ret, regA, regOps, runOps, opStep, wantedA, opA, evo, evos, calleeA, lk, nif_eq, putE, paramsE, valS, val2, keepE, restrict, finA, resA, binA, binInt, ofConst, ofConst1, loadA, TK.isAgg, asVar, unA, builtinA, lenOpA, lenA, ileb_cast, ileb_eq, ieqb_dec, indexAddrA, inB_dec, evPairs, storeA, AV.cellsOf, pairsOf, xI_nil, binBool, gcE, evOpt, xI_block, xI_loopH, xI_condM, xI_exitM, xI_skip, xI_blk, exitA, ty75, allOne, AV.one, buildA, sizesOf, fillA, putCells, fieldAddrA, allOne, AV.one, ty2, ty22, ty3, ty5, ty73, ty75]

noncomputable def b22 : Code := Tryz.f22.body.getD .skip
noncomputable def B22_0 : Code := (bodyC (bodyC (sndC (fstC (sndC (sndC (sndC (sndC b22))))))))
noncomputable def K22_0 : List It := .lp B22_0 :: .blk 0 :: .code (sndC (sndC (sndC (sndC (sndC b22))))) :: []
theorem xl22_0 {fi : FI} {env : Env} {σ : St} : exI TT fi K22_0 env σ = exI TT fi (.code B22_0 :: K22_0) env σ := by unfold K22_0; exact xI_lp
noncomputable def R22_0_0 : List It := .code (sndC (sndC (sndC (sndC (sndC b22))))) :: []
theorem eK22_0_0 : exitA 0 K22_0 = some R22_0_0 := rfl
noncomputable def B22_1 : Code := (bodyC (bodyC (sndC (fstC (sndC (sndC (sndC (sndC (sndC (sndC (sndC b22)))))))))))
noncomputable def K22_1 : List It := .lp B22_1 :: .blk 2 :: .code (sndC (sndC (sndC (sndC (sndC (sndC (sndC (sndC b22)))))))) :: []
theorem xl22_1 {fi : FI} {env : Env} {σ : St} : exI TT fi K22_1 env σ = exI TT fi (.code B22_1 :: K22_1) env σ := by unfold K22_1; exact xI_lp
noncomputable def R22_1_2 : List It := .code (sndC (sndC (sndC (sndC (sndC (sndC (sndC (sndC b22)))))))) :: []
theorem eK22_1_2 : exitA 2 K22_1 = some R22_1_2 := rfl
set_option maxHeartbeats 4000000 in
theorem s22y (s b m b2 m2 : Nat) (n a a2 z x : Int) (i : Nat) (σ σ1 σ2 σ3 σ4 : St) (hi : (i : Int) < n) (c1 : callI TT 21 [.ptr s 0, .int .i64 5] σ = some (.int .i64 x, σ1)) (c2 : callI TT 47 [.ptr s 0, .int .i64 z] σ1 = some (.bool true, σ2)) (c3 : buildSliceA TT σ2 28 1 [(0, .int .i64 0)] = some (.sl σ2.n 0 1 1, σ3)) (c4 : appendA TT σ3 28 28 (.sl b 0 m m) (.sl σ2.n 0 1 1) = some (.sl b2 0 m2 m2, σ4)) (ha : wrapA .i64 a = a2) (hw : wrapA .i64 ((i : Int) + 1) = (i : Int) + 1) :
    exI TT (FI.of Tryz.f22 (TT.an 22)) K22_0 [(0, .ptr s 0), (1, .int .i64 n), (5, .sl b 0 m m), (6, .int .i64 a), (7, .int .i64 z), (8, .int .i64 i)] σ = exI TT (FI.of Tryz.f22 (TT.an 22)) K22_0 [(0, .ptr s 0), (1, .int .i64 n), (5, .sl b2 0 m2 m2), (6, .int .i64 a2), (7, .int .i64 z), (8, .int .i64 ((i : Int) + 1))] σ4 := by
  rw [fi22]
  conv => lhs; rw [xl22_0]
  simp only [B22_0, b22, Tryz.f22, Option.getD, fstC, sndC, bodyC, thnC, elsC]
  simp (maxSteps := 1000000) (disch := omega) [eK22_0_0, eK22_1_2, getCells, takeN, dropN, fieldAddrA, allOne, AV.one, n_push, putN, overN, blt_dec, buildA, sizesOf, fillA, putCells, List.take_succ_cons, List.take_zero, List.drop_succ_cons, List.drop_zero, List.nil_append, List.cons_append, List.length_cons, List.length_nil, eqvs_dgs, convA, hi, c1, c2, c3, c4, ha, hw]
set_option maxHeartbeats 4000000 in
theorem s22k (s b m b2 m2 : Nat) (n a a2 z x : Int) (i : Nat) (σ σ1 σ2 σ3 σ4 : St) (hi : (i : Int) < n) (c1 : callI TT 21 [.ptr s 0, .int .i64 5] σ = some (.int .i64 x, σ1)) (c2 : callI TT 47 [.ptr s 0, .int .i64 z] σ1 = some (.bool false, σ2)) (c3 : buildSliceA TT σ2 28 1 [(0, .int .i64 x)] = some (.sl σ2.n 0 1 1, σ3)) (c4 : appendA TT σ3 28 28 (.sl b 0 m m) (.sl σ2.n 0 1 1) = some (.sl b2 0 m2 m2, σ4)) (ha : wrapA .i64 (a + x) = a2) (hw : wrapA .i64 ((i : Int) + 1) = (i : Int) + 1) :
    exI TT (FI.of Tryz.f22 (TT.an 22)) K22_0 [(0, .ptr s 0), (1, .int .i64 n), (5, .sl b 0 m m), (6, .int .i64 a), (7, .int .i64 z), (8, .int .i64 i)] σ = exI TT (FI.of Tryz.f22 (TT.an 22)) K22_0 [(0, .ptr s 0), (1, .int .i64 n), (5, .sl b2 0 m2 m2), (6, .int .i64 a2), (7, .int .i64 z), (8, .int .i64 ((i : Int) + 1))] σ4 := by
  rw [fi22]
  conv => lhs; rw [xl22_0]
  simp only [B22_0, b22, Tryz.f22, Option.getD, fstC, sndC, bodyC, thnC, elsC]
  simp (maxSteps := 1000000) (disch := omega) [eK22_0_0, eK22_1_2, getCells, takeN, dropN, fieldAddrA, allOne, AV.one, n_push, putN, overN, blt_dec, buildA, sizesOf, fillA, putCells, List.take_succ_cons, List.take_zero, List.drop_succ_cons, List.drop_zero, List.nil_append, List.cons_append, List.length_cons, List.length_nil, eqvs_dgs, convA, hi, c1, c2, c3, c4, ha, hw]
set_option maxHeartbeats 4000000 in
theorem e22p (s b m : Nat) (n a z : Int) (i : Nat) (σ σ1 : St) (hi : n = i) (ha : ¬ a = 0) (c1 : buildSliceA TT σ 24 0 [] = some (.sl σ.n 0 0 0, σ1)) :
    exI TT (FI.of Tryz.f22 (TT.an 22)) K22_0 [(0, .ptr s 0), (1, .int .i64 n), (5, .sl b 0 m m), (6, .int .i64 a), (7, .int .i64 z), (8, .int .i64 i)] σ = exI TT (FI.of Tryz.f22 (TT.an 22)) K22_1 [(1, .int .i64 n), (5, .sl b 0 m m), (6, .int .i64 a), (10, .sl σ.n 0 0 0), (11, .int .i64 0)] σ1 := by
  rw [fi22]
  conv => lhs; rw [xl22_0]
  simp only [B22_0, b22, Tryz.f22, Option.getD, fstC, sndC, bodyC, thnC, elsC]
  simp (maxSteps := 1000000) (disch := omega) [eK22_0_0, eK22_1_2, getCells, takeN, dropN, fieldAddrA, allOne, AV.one, n_push, putN, overN, blt_dec, buildA, sizesOf, fillA, putCells, List.take_succ_cons, List.take_zero, List.drop_succ_cons, List.drop_zero, List.nil_append, List.cons_append, List.length_cons, List.length_nil, eqvs_dgs, convA, hi, ha, c1]
  simp only [R22_0_0, b22, Tryz.f22, Option.getD, fstC, sndC, bodyC, thnC, elsC]
  simp (maxSteps := 1000000) (disch := omega) [eK22_0_0, eK22_1_2, getCells, takeN, dropN, fieldAddrA, allOne, AV.one, n_push, putN, overN, blt_dec, buildA, sizesOf, fillA, putCells, List.take_succ_cons, List.take_zero, List.drop_succ_cons, List.drop_zero, List.nil_append, List.cons_append, List.length_cons, List.length_nil, eqvs_dgs, convA, hi, ha, c1]
  rfl
set_option maxHeartbeats 4000000 in
theorem e22z (s b m r : Nat) (n z : Int) (i : Nat) (σ σ1 σ2 σ3 : St) (hi : n = i) (c0 : callI TT 21 [.ptr s 0, .int .i64 i] σ = some (.int .i64 r, σ1)) (hr : r < m) (s1 : storeCellsA σ1 b r [.int .i64 1] = some σ2) (c1 : buildSliceA TT σ2 24 0 [] = some (.sl σ2.n 0 0 0, σ3)) :
    exI TT (FI.of Tryz.f22 (TT.an 22)) K22_0 [(0, .ptr s 0), (1, .int .i64 n), (5, .sl b 0 m m), (6, .int .i64 0), (7, .int .i64 z), (8, .int .i64 i)] σ = exI TT (FI.of Tryz.f22 (TT.an 22)) K22_1 [(1, .int .i64 n), (5, .sl b 0 m m), (6, .int .i64 1), (10, .sl σ2.n 0 0 0), (11, .int .i64 0)] σ3 := by
  rw [fi22]
  conv => lhs; rw [xl22_0]
  simp only [B22_0, b22, Tryz.f22, Option.getD, fstC, sndC, bodyC, thnC, elsC]
  simp (maxSteps := 1000000) (disch := omega) [eK22_0_0, eK22_1_2, getCells, takeN, dropN, fieldAddrA, allOne, AV.one, n_push, putN, overN, blt_dec, buildA, sizesOf, fillA, putCells, List.take_succ_cons, List.take_zero, List.drop_succ_cons, List.drop_zero, List.nil_append, List.cons_append, List.length_cons, List.length_nil, eqvs_dgs, convA, hi, c0, hr, s1, c1]
  simp only [R22_0_0, b22, Tryz.f22, Option.getD, fstC, sndC, bodyC, thnC, elsC]
  simp (maxSteps := 1000000) (disch := omega) [eK22_0_0, eK22_1_2, getCells, takeN, dropN, fieldAddrA, allOne, AV.one, n_push, putN, overN, blt_dec, buildA, sizesOf, fillA, putCells, List.take_succ_cons, List.take_zero, List.drop_succ_cons, List.drop_zero, List.nil_append, List.cons_append, List.length_cons, List.length_nil, eqvs_dgs, convA, hi, c0, hr, s1, c1]
  rfl
set_option maxHeartbeats 4000000 in
theorem t22 (b m d j d2 j2 : Nat) (n a w x y : Int) (i : Nat) (σ σ1 σ2 : St) (hi : (i : Int) < n) (him : i < m) (l1 : cellsAt σ (.ptr b i) 1 = some [.int .i64 w]) (c1 : callI TT 48 [.int .i64 w, .int .i64 a] σ = some (.agg [.int .i64 x, .int .i64 y], σ)) (c2 : buildSliceA TT σ 24 1 [(0, .agg [.int .i64 x, .int .i64 y])] = some (.sl σ.n 0 1 1, σ1)) (c3 : appendA TT σ1 24 24 (.sl d 0 j j) (.sl σ.n 0 1 1) = some (.sl d2 0 j2 j2, σ2)) (hw : wrapA .i64 ((i : Int) + 1) = (i : Int) + 1) :
    exI TT (FI.of Tryz.f22 (TT.an 22)) K22_1 [(1, .int .i64 n), (5, .sl b 0 m m), (6, .int .i64 a), (10, .sl d 0 j j), (11, .int .i64 i)] σ = exI TT (FI.of Tryz.f22 (TT.an 22)) K22_1 [(1, .int .i64 n), (5, .sl b 0 m m), (6, .int .i64 a), (10, .sl d2 0 j2 j2), (11, .int .i64 ((i : Int) + 1))] σ2 := by
  rw [fi22]
  conv => lhs; rw [xl22_1]
  simp only [B22_1, b22, Tryz.f22, Option.getD, fstC, sndC, bodyC, thnC, elsC]
  simp (maxSteps := 1000000) (disch := omega) [eK22_0_0, eK22_1_2, getCells, takeN, dropN, fieldAddrA, allOne, AV.one, n_push, putN, overN, blt_dec, buildA, sizesOf, fillA, putCells, List.take_succ_cons, List.take_zero, List.drop_succ_cons, List.drop_zero, List.nil_append, List.cons_append, List.length_cons, List.length_nil, eqvs_dgs, convA, hi, him, l1, c1, c2, c3, hw]
set_option maxHeartbeats 4000000 in
theorem u22 (b m d j : Nat) (n a : Int) (i : Nat) (σ : St) (hi : n = i) :
    exI TT (FI.of Tryz.f22 (TT.an 22)) K22_1 [(1, .int .i64 n), (5, .sl b 0 m m), (6, .int .i64 a), (10, .sl d 0 j j), (11, .int .i64 i)] σ = some (.sl d 0 j j, σ) := by
  rw [fi22]
  conv => lhs; rw [xl22_1]
  simp only [B22_1, b22, Tryz.f22, Option.getD, fstC, sndC, bodyC, thnC, elsC]
  simp (maxSteps := 1000000) (disch := omega) [eK22_0_0, eK22_1_2, getCells, takeN, dropN, fieldAddrA, allOne, AV.one, n_push, putN, overN, blt_dec, buildA, sizesOf, fillA, putCells, List.take_succ_cons, List.take_zero, List.drop_succ_cons, List.drop_zero, List.nil_append, List.cons_append, List.length_cons, List.length_nil, eqvs_dgs, convA, hi]
  simp only [R22_1_2, b22, Tryz.f22, Option.getD, fstC, sndC, bodyC, thnC, elsC]
  simp (maxSteps := 1000000) (disch := omega) [eK22_0_0, eK22_1_2, getCells, takeN, dropN, fieldAddrA, allOne, AV.one, n_push, putN, overN, blt_dec, buildA, sizesOf, fillA, putCells, List.take_succ_cons, List.take_zero, List.drop_succ_cons, List.drop_zero, List.nil_append, List.cons_append, List.length_cons, List.length_nil, eqvs_dgs, convA, hi]
set_option maxHeartbeats 4000000 in
theorem b22e (s z : Nat) (n : Int) (σ σ1 σ2 : St) (c1 : buildSliceA TT σ 28 0 [] = some (.sl σ.n 0 0 0, σ1)) (c2 : callI TT 21 [.ptr s 0, .int .i64 4] σ1 = some (.int .i64 z, σ2)) (hz : wrapA .i64 (1 + (z : Int)) = 1 + (z : Int)) :
    exI TT (FI.of Tryz.f22 (TT.an 22)) [.code b22] (paramsE 0 [.ptr s 0, .int .i64 n]) σ = exI TT (FI.of Tryz.f22 (TT.an 22)) K22_0 [(0, .ptr s 0), (1, .int .i64 n), (5, .sl σ.n 0 0 0), (6, .int .i64 0), (7, .int .i64 (1 + (z : Int))), (8, .int .i64 0)] σ2 := by
  rw [fi22]
  simp only [b22, Tryz.f22, Option.getD, fstC, sndC, bodyC, thnC, elsC]
  simp (maxSteps := 1000000) (disch := omega) [eK22_0_0, eK22_1_2, getCells, takeN, dropN, fieldAddrA, allOne, AV.one, n_push, putN, overN, blt_dec, buildA, sizesOf, fillA, putCells, List.take_succ_cons, List.take_zero, List.drop_succ_cons, List.drop_zero, List.nil_append, List.cons_append, List.length_cons, List.length_nil, eqvs_dgs, convA, c1, c2, hz]
  rfl
/-- The weights of drawn chances as numbers. -/
def wints (ws : List Nat) : List Int := ws.map fun (x : Nat) => (x : Int)
/-- Drawn chances. -/
def chsL (ws : List Nat) : List (Int × Int) := ws.map fun (x : Nat) => ((mkRat x ws.sum).num, ((mkRat x ws.sum).den : Int))
def chsT (T : Nat) (ws : List Nat) : List (Int × Int) := ws.map fun (x : Nat) => ((mkRat x T).num, ((mkRat x T).den : Int))
def W4 (ws : List Nat) : Prop := ∀ x ∈ ws, x ≤ 4
theorem W4.sum : ∀ {ws : List Nat}, W4 ws → ws.sum ≤ 4 * ws.length
  | [], _ => by simp
  | x :: r, h => by
    have h1 := h x (by simp)
    have h2 := W4.sum (ws := r) fun y hy => h y (by simp [hy])
    simp only [List.sum_cons, List.length_cons]; omega
theorem l22A (l : List Nat) (hl : ∀ x ∈ l, x < 256) (hll : l.length ≤ 2000000) (s n z : Nat) (hz : z ≤ 100) (hn : n ≤ 16) : ∀ (m i : Nat) (ws : List Nat) (b k mm : Nat) (σ : St), i + m = n → ws.length = i → W4 ws → Row σ b (wints ws) → b ≠ s → SRC σ s l k mm → k + 4 * m ≤ 900000 →
    ∃ ws' b' k' mm' σ', exI TT (FI.of Tryz.f22 (TT.an 22)) K22_0 [(0, .ptr s 0), (1, .int .i64 n), (5, .sl b 0 i i), (6, .int .i64 ws.sum), (7, .int .i64 z), (8, .int .i64 i)] σ = exI TT (FI.of Tryz.f22 (TT.an 22)) K22_0 [(0, .ptr s 0), (1, .int .i64 n), (5, .sl b' 0 n n), (6, .int .i64 ws'.sum), (7, .int .i64 z), (8, .int .i64 n)] σ' ∧ ws'.length = n ∧ W4 ws' ∧ Row σ' b' (wints ws') ∧ b' ≠ s ∧ SRC σ' s l k' mm' ∧ k' ≤ k + 4 * m ∧ σ.n ≤ σ'.n ∧ (b = b' ∨ σ.n ≤ b') ∧ ∀ c, c ≠ s → c ≠ b → c < σ.n → σ'.get c = σ.get c := by
  intro m
  induction m with
  | zero =>
    intro i ws b k mm σ hi hw h4 hr hbs hs hk
    obtain rfl : i = n := by omega
    exact ⟨ws, b, k, mm, σ, rfl, hw, h4, hr, hbs, hs, by omega, Nat.le_refl _, .inl rfl, fun _ _ _ _ => rfl⟩
  | succ m ih =>
    intro i ws b k mm σ hi hw h4 hr hbs hs hk
    obtain ⟨x, k1, m1, σ1, c1, hx, s1, hk1, n1, o1⟩ := c21 l hl hll k mm (by omega) 5 (by decide) σ s hs
    obtain ⟨y, k2, m2, σ2, c2, s2, hk2, n2, o2⟩ := c47 l hl hll k1 m1 (by omega) z (by omega) σ1 s s1
    have hr2 : Row σ2 b (wints ws) := (hr.keep (Nat.le_of_eq n1.symm) (o1 b hbs)).keep (Nat.le_of_eq n2.symm) (o2 b hbs)
    have hi1 : ((i + 1 : Nat) : Int) = (i : Int) + 1 := by omega
    have hw1 : wrapA .i64 ((i : Int) + 1) = (i : Int) + 1 := wrapA_id (by omega) (by omega)
    have hsum := h4.sum
    have step : ∀ v : Nat, v ≤ 4 → ∃ σ4, buildSliceA TT σ2 28 1 [(0, .int .i64 v)] = some (.sl σ2.n 0 1 1, σ2.push ⟨[.int .i64 v], 1, false⟩) ∧ appendA TT (σ2.push ⟨[.int .i64 v], 1, false⟩) 28 28 (.sl b 0 i i) (.sl σ2.n 0 1 1) = some (.sl (σ2.n + 1) 0 (i + 1) (i + 1), σ4) ∧ Row σ4 (σ2.n + 1) (wints (ws ++ [v])) ∧ σ4.n = σ2.n + 2 ∧ (∀ c, c ≠ b → c < σ2.n → σ4.get c = σ2.get c) := by
      intro v hv
      obtain ⟨σ4, a1, a2, a3, a4⟩ := append_row (T := TT) (st := 28) (x := (v : Int)) ty28 ty2 hr2 (n := i) (by simp [wints, hw]) (by omega)
      refine ⟨σ4, build_one ty28 ty2, a1, ?_, a3, a4⟩
      have : wints (ws ++ [v]) = wints ws ++ [(v : Int)] := by simp [wints]
      rw [this]; exact a2
    have fin : ∀ (v : Nat), v ≤ 4 → ∀ σ4, Row σ4 (σ2.n + 1) (wints (ws ++ [v])) → σ4.n = σ2.n + 2 → (∀ c, c ≠ b → c < σ2.n → σ4.get c = σ2.get c) → exI TT (FI.of Tryz.f22 (TT.an 22)) K22_0 [(0, .ptr s 0), (1, .int .i64 n), (5, .sl b 0 i i), (6, .int .i64 ws.sum), (7, .int .i64 z), (8, .int .i64 i)] σ = exI TT (FI.of Tryz.f22 (TT.an 22)) K22_0 [(0, .ptr s 0), (1, .int .i64 n), (5, .sl (σ2.n + 1) 0 (i + 1) (i + 1)), (6, .int .i64 (ws ++ [v]).sum), (7, .int .i64 z), (8, .int .i64 ((i : Int) + 1))] σ4 →
        ∃ ws' b' k' mm' σ', exI TT (FI.of Tryz.f22 (TT.an 22)) K22_0 [(0, .ptr s 0), (1, .int .i64 n), (5, .sl b 0 i i), (6, .int .i64 ws.sum), (7, .int .i64 z), (8, .int .i64 i)] σ = exI TT (FI.of Tryz.f22 (TT.an 22)) K22_0 [(0, .ptr s 0), (1, .int .i64 n), (5, .sl b' 0 n n), (6, .int .i64 ws'.sum), (7, .int .i64 z), (8, .int .i64 n)] σ' ∧ ws'.length = n ∧ W4 ws' ∧ Row σ' b' (wints ws') ∧ b' ≠ s ∧ SRC σ' s l k' mm' ∧ k' ≤ k + 4 * (m + 1) ∧ σ.n ≤ σ'.n ∧ (b = b' ∨ σ.n ≤ b') ∧ ∀ c, c ≠ s → c ≠ b → c < σ.n → σ'.get c = σ.get c := by
      intro v hv σ4 a2 a3 a4 he
      have hsl := s2.1
      have s4 : SRC σ4 s l k2 m2 := ⟨by omega, by rw [a4 s (fun e => hbs e.symm) hsl]; exact s2.2.1, s2.2.2⟩
      obtain ⟨ws', b', k', mm', σ', e1, e2, e3, e4, e5, e6, e7, e8, e9, e10⟩ := ih (i + 1) (ws ++ [v]) (σ2.n + 1) k2 m2 σ4 (by omega) (by simp [hw]) (fun x hx => by
        rcases List.mem_append.1 hx with hx | hx
        · exact h4 x hx
        · rw [List.mem_singleton.1 hx]; exact hv) a2 (by omega) s4 (by omega)
      rw [hi1] at e1
      refine ⟨ws', b', k', mm', σ', he.trans e1, e2, e3, e4, e5, e6, by omega, by omega, .inr ?_, fun c hc hcb hcn => ?_⟩
      · rcases e9 with e9 | e9 <;> omega
      · rw [e10 c hc (by omega) (by omega), a4 c hcb (by omega), o2 c hc, o1 c hc]
    cases y with
    | true =>
      obtain ⟨σ4, b1, b2, b3, b4, b5⟩ := step 0 (by decide)
      refine fin 0 (by decide) σ4 b3 b4 b5 ?_
      exact s22y s b i (σ2.n + 1) (i + 1) n _ _ z x i σ σ1 σ2 _ σ4 (by omega) c1 c2 b1 b2 (by rw [List.sum_append]; simp only [List.sum_cons, List.sum_nil, Nat.add_zero]; exact wrapA_id (by omega) (by omega)) hw1
    | false =>
      have hx4 : x ≤ 4 := by omega
      obtain ⟨σ4, b1, b2, b3, b4, b5⟩ := step x hx4
      refine fin x hx4 σ4 b3 b4 b5 ?_
      exact s22k s b i (σ2.n + 1) (i + 1) n _ _ z x i σ σ1 σ2 _ σ4 (by omega) c1 c2 b1 b2 (by rw [List.sum_append]; simp only [List.sum_cons, List.sum_nil, Nat.add_zero, Int.natCast_add]; exact wrapA_id (by omega) (by omega)) hw1
theorem l22B (n T : Nat) (hn : n ≤ 16) (hT : 1 ≤ T) (hT2 : T ≤ 100) (ws : List Nat) (hw : ws.length = n) (h4 : W4 ws) (b : Nat) : ∀ (m i d : Nat) (σ : St), i + m = n → Row σ b (wints ws) → RowE σ d 2 (flat FC (chsT T (ws.take i))) → d ≠ b →
    ∃ d' σ', exI TT (FI.of Tryz.f22 (TT.an 22)) K22_1 [(1, .int .i64 n), (5, .sl b 0 n n), (6, .int .i64 T), (10, .sl d 0 i i), (11, .int .i64 i)] σ = some (.sl d' 0 n n, σ') ∧ RowE σ' d' 2 (flat FC (chsT T ws)) ∧ σ.n ≤ σ'.n ∧ (d = d' ∨ σ.n ≤ d') ∧ ∀ c, c ≠ d → c < σ.n → σ'.get c = σ.get c := by
  intro m
  induction m with
  | zero =>
    intro i d σ hi hr hd hdb
    obtain rfl : i = n := by omega
    rw [← hw, List.take_of_length_le (Nat.le_refl _)] at hd
    exact ⟨d, σ, u22 b i d i i T i σ rfl, hd, Nat.le_refl _, .inl rfl, fun _ _ _ => rfl⟩
  | succ m ih =>
    intro i d σ hi hr hd hdb
    have hil : i < ws.length := by omega
    have hi1 : ((i + 1 : Nat) : Int) = (i : Int) + 1 := by omega
    have hx := h4 _ (List.getElem_mem hil)
    have l1 : cellsAt σ (.ptr b i) 1 = some [.int .i64 (ws[i] : Nat)] := hr.read (by simp [wints, hil])
    have c1 := v48 (ws[i] : Nat) T (by omega) (by omega) hT (by omega) σ [.int .i64 (ws[i] : Nat), .int .i64 T] rfl
    have c2 := build_el (T := TT) (σ := σ) (st := 24) (w := [.int .i64 (mkRat (ws[i] : Nat) T).num, .int .i64 (mkRat (ws[i] : Nat) T).den]) ty24 ty33 (by decide) rfl rfl rfl
    obtain ⟨σ2, a1, a2, a3⟩ := append_el (T := TT) (st := 24) (n := i) (w := [.int .i64 (mkRat (ws[i] : Nat) T).num, .int .i64 (mkRat (ws[i] : Nat) T).den]) ty24 ty33 (fun _ _ => trivial) (by decide) rfl rfl (by rw [flat_len FC_len]; simp [chsT]; omega) hd (by omega)
    have e : flat FC (chsT T (ws.take i)) ++ [.int .i64 (mkRat (ws[i] : Nat) T).num, .int .i64 (mkRat (ws[i] : Nat) T).den] = flat FC (chsT T (ws.take (i + 1))) := by
      rw [List.take_succ_eq_append_getElem hil, chsT, chsT, List.map_append, flat_app]; simp [flat, FC]
    rw [e] at a2
    have hbl := hr.lt
    have hlt2 := a2.lt
    have hr2 : Row σ2 b (wints ws) := hr.keep (by omega) (a3 b (fun h => hdb h.symm) hbl)
    obtain ⟨d', σ', k1, k2, k3, k4, k5⟩ := ih (i + 1) (σ.n + 1) σ2 (by omega) hr2 a2 (by omega)
    rw [hi1] at k1
    refine ⟨d', σ', ?_, k2, by omega, .inr (by rcases k4 with h | h <;> omega), fun c hc hcn => by rw [k5 c (by omega) (by omega), a3 c hc hcn]⟩
    rw [← k1]
    exact t22 b n d i (σ.n + 1) (i + 1) n T _ _ _ i σ _ σ2 (by omega) (by omega) l1 c1 c2 a1 (wrapA_id (by omega) (by omega))
theorem c22 (l : List Nat) (hl : ∀ x ∈ l, x < 256) (hll : l.length ≤ 2000000) (k mm n : Nat) (hk : k ≤ 800000) (hn1 : 1 ≤ n) (hn : n ≤ 16) (σ : St) (s : Nat) (h : SRC σ s l k mm) :
    ∃ ws d k' mm' σ', callI TT 22 [.ptr s 0, .int .i64 n] σ = some (.sl d 0 n n, σ') ∧ ws.length = n ∧ W4 ws ∧ 1 ≤ ws.sum ∧ RowE σ' d 2 (flat FC (chsL ws)) ∧ SRC σ' s l k' mm' ∧ k' ≤ k + 100 ∧ σ.n ≤ σ'.n ∧ σ.n ≤ d ∧ ∀ c, c ≠ s → c < σ.n → σ'.get c = σ.get c := by
  have hb := build_nil (T := TT) (σ := σ) (st := 28) ty28 ty2
  have hsl := h.1
  have h1 : SRC (σ.push ⟨ints [], 1, false⟩) s l k mm := ⟨by show s < σ.n + 1; omega, by rw [get_push_lt hsl]; exact h.2.1, h.2.2⟩
  obtain ⟨z, k1, m1, σ2, c1, hz, s2, hk1, n2, o2⟩ := c21 l hl hll k mm (by omega) 4 (by decide) _ s h1
  have hn2 : σ2.n = σ.n + 1 := n2
  have hr0 : Row σ2 σ.n (wints []) := by
    have : Row (σ.push ⟨ints [], 1, false⟩) σ.n [] := Row.push
    exact this.keep (Nat.le_of_eq n2.symm) (o2 σ.n (by omega))
  obtain ⟨ws, b, k2, m2, σ3, e1, e2, e3, e4, e5, e6, e7, e8, e9, e10⟩ := l22A l hl hll s n (1 + z) (by omega) hn n 0 [] σ.n k1 m1 σ2 (by omega) rfl (by intro x hx; cases hx) hr0 (by omega) s2 (by omega)
  have hbeg := b22e s z n σ _ σ2 hb c1 (wrapA_id (by omega) (by omega))
  have hcast : (1 + (z : Int)) = ((1 + z : Nat) : Int) := by omega
  rw [hcast] at hbeg
  have hbn : σ.n ≤ b := by rcases e9 with h | h <;> omega
  have hbl := e4.lt
  rw [cI_0 (c := b22) fn22 rfl md22]
  by_cases hz0 : ws.sum = 0
  · obtain ⟨r, k3, m3, σ4, c4, hr, s4, hk3, n4, o4⟩ := c21 l hl hll k2 m2 (by omega) n (by omega) σ3 s e6
    have hr4 : Row σ4 b (wints ws) := e4.keep (Nat.le_of_eq n4.symm) (o4 b e5)
    have hrn : r < n := by omega
    obtain ⟨σ5, t1, t2, t3, t4⟩ := store_row (i := r) (x := (1 : Int)) hr4 (by simp [wints, e2]; exact hrn)
    have hws : ∀ x ∈ ws, x = 0 := fun x hx => by
      have : ∀ (l : List Nat), l.sum = 0 → ∀ x ∈ l, x = 0 := by
        intro l
        induction l with
        | nil => intro _ x hx; cases hx
        | cons y r ih =>
          intro h x hx
          simp only [List.sum_cons] at h
          rcases List.mem_cons.1 hx with rfl | hx
          · omega
          · exact ih (by omega) x hx
      exact this ws hz0 x hx
    have hset : (wints ws).set r 1 = wints (ws.set r 1) := by simp [wints, List.map_set]
    rw [hset] at t2
    have h4' : W4 (ws.set r 1) := fun x hx => by
      rcases List.mem_or_eq_of_mem_set hx with hx | hx
      · exact e3 x hx
      · omega
    have hsum : (ws.set r 1).sum = 1 := by
      have : ∀ (l : List Nat) (r : Nat), r < l.length → (∀ x ∈ l, x = 0) → (l.set r 1).sum = 1 := by
        intro l
        induction l with
        | nil => intro r h; simp at h
        | cons y t ih =>
          intro r h hz
          have hs0 : ∀ (l : List Nat), (∀ x ∈ l, x = 0) → l.sum = 0 := by
            intro l
            induction l with
            | nil => intro _; rfl
            | cons y r ih => intro h; rw [List.sum_cons, h y (by simp), ih fun x hx => h x (by simp [hx])]
          cases r with
          | zero => simp only [List.set_cons_zero, List.sum_cons]; rw [hs0 t fun x hx => hz x (by simp [hx])]
          | succ r => simp only [List.set_cons_succ, List.sum_cons]; rw [hz y (by simp), ih r (by simpa using h) fun x hx => hz x (by simp [hx])]
      exact this ws r (by omega) hws
    have hσ5 := t3
    have c5 := build_e0 (T := TT) (σ := σ5) (st := 24) ty24 ty33
    obtain ⟨d, σ', g1, g2, g3, g4, g5⟩ := l22B n 1 hn (by decide) (by decide) (ws.set r 1) (by simp [e2]) h4' b n 0 σ5.n (σ5.push ⟨[], 2, false⟩) (by omega) (t2.keep (Nat.le_succ _) (get_push_lt (by omega))) (RowE.push (σ := σ5) (cs := []) (e := 2) (o := false)) (by omega)
    rw [hz0] at e1
    refine ⟨ws.set r 1, d, k3, m3, σ', ?_, by simp [e2], h4', by omega, ?_, ?_, by omega, ?_, ?_, ?_⟩
    · refine hbeg.trans ?_
      refine Eq.trans e1 ?_
      refine Eq.trans ?_ g1
      exact e22z s b n r n _ n σ3 σ4 σ5 _ rfl c4 hrn t1 c5
    · rw [chsL, hsum]; exact g2
    · have hs5 : σ5.get s = σ4.get s := t4 s (fun e => e5 e.symm)
      have hsl4 := s4.1
      exact ⟨by have := g3; simp only [n_push] at this; omega, by rw [g5 s (by omega) (by simp only [n_push]; omega), get_push_lt (by omega), hs5]; exact s4.2.1, s4.2.2⟩
    · have := g3; simp only [n_push] at this; omega
    · rcases g4 with g4 | g4
      · omega
      · simp only [n_push] at g4; omega
    · intro c hc hcn
      rw [g5 c (by omega) (by simp only [n_push]; omega), get_push_lt (by omega), t4 c (by omega), o4 c hc, e10 c hc (by omega) (by omega), o2 c hc, get_push_lt hcn]
  · have c5 := build_e0 (T := TT) (σ := σ3) (st := 24) ty24 ty33
    have hs4 := e3.sum
    obtain ⟨d, σ', g1, g2, g3, g4, g5⟩ := l22B n ws.sum hn (by omega) (by omega) ws e2 e3 b n 0 σ3.n (σ3.push ⟨[], 2, false⟩) (by omega) (e4.keep (Nat.le_succ _) (get_push_lt (by omega))) (RowE.push (σ := σ3) (cs := []) (e := 2) (o := false)) (by omega)
    refine ⟨ws, d, k2, m2, σ', ?_, e2, e3, by omega, g2, ?_, by omega, ?_, ?_, ?_⟩
    · refine hbeg.trans ?_
      refine Eq.trans e1 ?_
      refine Eq.trans ?_ g1
      exact e22p s b n n _ _ n σ3 _ rfl (by omega) c5
    · have hsl6 := e6.1
      exact ⟨by have := g3; simp only [n_push] at this; omega, by rw [g5 s (by omega) (by simp only [n_push]; omega), get_push_lt (by omega)]; exact e6.2.1, e6.2.2⟩
    · have := g3; simp only [n_push] at this; omega
    · rcases g4 with g4 | g4
      · omega
      · simp only [n_push] at g4; omega
    · intro c hc hcn
      rw [g5 c (by omega) (by simp only [n_push]; omega), get_push_lt (by omega), e10 c hc (by omega) (by omega), o2 c hc, get_push_lt hcn]

theorem chsL_len (ws : List Nat) : (chsL ws).length = ws.length := by simp [chsL]
theorem FC_frz' (σ : St) (d : Nat) (l : List (Int × Int)) : mapO (frzV σ (d + 1)) (flat FC l) = some (flat FC l) := flat_frz (fun x => FC_frz σ d x) l
/-- Weights of drawn chances. -/
def Wts (n : Nat) (ws : List Nat) : Prop := ws.length = n ∧ W4 ws ∧ 1 ≤ ws.sum
set_option maxHeartbeats 4000000 in
theorem k78 (a b : Int) (h l : Int) (c1 : ∀ σ, callI TT 97 [.int .u64 a, .int .u64 b] σ = some (.tup [.int .u64 h, .int .u64 l], σ)) :
    ∃ σ', exI TT (FI.of Tryz.f78 (TT.an 78)) [.code (Tryz.f78.body.getD .skip)] (paramsE 0 [.int .u64 a, .int .u64 b]) ⟨[], 0⟩ = some (.tup [.int .u64 h, .int .u64 l], σ') := by
  refine ex1 ?_
  rw [fi78]
  simp only [Tryz.f78, Option.getD]
  simp (maxSteps := 1000000) (disch := omega) [cellsAt, getCells, takeN, dropN, fieldAddrA, allOne, AV.one, n_push, storeCellsA, putN, overN, St.push, St.get, St.set, hget, hset, blt_dec, buildA, sizesOf, fillA, putCells, List.take_succ_cons, List.take_zero, List.drop_succ_cons, List.drop_zero, List.nil_append, List.cons_append, List.length_cons, List.length_nil, eqvs_dgs, convA, c1]
theorem r78 (a b : Nat) (ha : a < 144115188075855872) (hb : b < 64) : FnV TT 78 [.int .u64 a, .int .u64 b] (.tup [.int .u64 0, .int .u64 ((a * b : Nat) : Int)]) :=
  FnV.mk fn78 rfl md78 (k78 _ _ _ _ (fun σ => c97 a b ha hb σ)) (fun _ => rfl) rfl
theorem repeat_add (z : List AV) : ∀ a b : Nat, repeatCells z (a + b) = repeatCells z a ++ repeatCells z b
  | 0, b => by rw [Nat.zero_add]; rfl
  | a + 1, b => by rw [show a + 1 + b = (a + b) + 1 by omega, repeatCells, repeatCells, repeat_add z a b, List.append_assoc]
theorem repeat_len (z : List AV) : ∀ a : Nat, (repeatCells z a).length = a * z.length
  | 0 => by simp [repeatCells]
  | a + 1 => by rw [repeatCells, List.length_append, repeat_len z a, Nat.add_mul]; omega
def repQ (q : Rat) (n : Nat) : List Rat := List.replicate n q
/-- A row of ratios, filled up to a place. -/
def filled (q : Rat) (k m : Nat) : List AV := flat RC (repQ q k) ++ repeatCells [.bool false, .nilS, .nilS] m
theorem filled_len (q : Rat) (k m : Nat) : (filled q k m).length = (k + m) * 3 := by
  rw [filled, List.length_append, flat_len RC_len, repeat_len]; simp [repQ]; omega
theorem rep_app (q : Rat) (a b : Nat) : flat RC (repQ q (a + b)) = flat RC (repQ q a) ++ flat RC (repQ q b) := by
  rw [← flat_app, repQ, repQ, repQ, List.replicate_append_replicate]
theorem put_filled (q : Rat) (k c m : Nat) : putCells (filled q k (c + m)) (k * 3) (flat RC (repQ q c)) = filled q (k + c) m := by
  have hl : (flat RC (repQ q k)).length = k * 3 := by rw [flat_len RC_len]; simp [repQ]
  have := put_el (pre := flat RC (repQ q k)) (z := repeatCells [.bool false, .nilS, .nilS] c) (w := flat RC (repQ q c)) (suf := repeatCells [.bool false, .nilS, .nilS] m) (by rw [repeat_len, flat_len RC_len]; simp [repQ])
  rw [hl] at this
  rw [filled, repeat_add, this, filled, rep_app, List.append_assoc]
theorem rep_one (q : Rat) (n : Nat) : allOne (flat RC (repQ q n)) = true := flat_one RC_one _
theorem copy_rep {σ : St} {b k c m n : Nat} {q : Rat} (h : RowE σ b 3 (filled q k (c + m))) (hc : c ≤ k) (hn : n = c + m) : ∃ σ', copyA TT σ 51 (.sl b (k * 3) n n) (.sl b 0 k (k + n)) = some (.int .i64 (Nat.min k n), σ') ∧ (Nat.min k n = c → RowE σ' b 3 (filled q (k + c) m) ∧ But b σ σ') := by
  have hcells : ∀ j, j ≤ k → firstA σ 3 j (.sl b 0 k (k + n)) = some (flat RC (repQ q j)) := fun j hj => by
    obtain ⟨o, hg, _⟩ := h
    simp only [firstA, hg]
    have e : filled q k (c + m) = flat RC (repQ q j) ++ (flat RC (repQ q (k - j)) ++ repeatCells [.bool false, .nilS, .nilS] (c + m)) := by
      rw [filled, show k = j + (k - j) by omega, rep_app, List.append_assoc]; simp
    rw [e, getCells_eq, if_pos (by rw [List.length_append, flat_len RC_len]; simp [repQ]), List.drop_zero, List.take_left' (by rw [flat_len RC_len]; simp [repQ])]
  have hmin : Nat.min k n ≤ k := Nat.min_le_left _ _
  have hmin2 : Nat.min k n ≤ n := Nat.min_le_right _ _
  have hf := hcells _ hmin
  obtain ⟨σ', a1, a2, a3⟩ := h.st (i := k * 3) (ws := flat RC (repQ q (Nat.min k n))) (by rw [filled_len, flat_len RC_len]; simp only [repQ, List.length_replicate]; omega) (rep_one q _)
  refine ⟨σ', ?_, fun hcc => ⟨?_, a3⟩⟩
  · simp only [copyA, ty51, ty57, lenA, hf, a1]
  · rw [hcc, put_filled] at a2; exact a2
theorem copy_one {σ : St} {b c n : Nat} {q : Rat} (h : RowE σ b 3 (filled q 0 (1 + n))) (hs : RowE σ c 3 (RC q)) : ∃ σ', copyA TT σ 51 (.sl b 0 (1 + n) (1 + n)) (.sl c 0 1 1) = some (.int .i64 1, σ') ∧ RowE σ' b 3 (filled q 1 n) ∧ But b σ σ' := by
  have hf : firstA σ 3 1 (.sl c 0 1 1) = some (flat RC (repQ q 1)) := by
    obtain ⟨o, hg, _⟩ := hs
    simp only [firstA, hg]
    rfl
  obtain ⟨σ', a1, a2, a3⟩ := h.st (i := 0) (ws := flat RC (repQ q 1)) (by rw [filled_len, flat_len RC_len]; simp only [repQ, List.length_replicate]; omega) (rep_one q _)
  have hmin : Nat.min 1 (1 + n) = 1 := Nat.min_eq_left (by omega)
  refine ⟨σ', ?_, ?_, a3⟩
  · simp only [copyA, ty51, ty57, lenA, hmin, hf, a1]; rfl
  · have := put_filled q 0 1 n
    rw [Nat.zero_mul, Nat.zero_add] at this
    rw [this] at a2; exact a2

noncomputable def b52 : Code := Tryz.f52.body.getD .skip
noncomputable def B52_0 : Code := (bodyC (bodyC (fstC (sndC (sndC (sndC (sndC (sndC (sndC b52)))))))))
noncomputable def K52_0 : List It := .lp B52_0 :: .blk 0 :: .code (sndC (sndC (sndC (sndC (sndC (sndC (sndC b52))))))) :: []
theorem xl52_0 {fi : FI} {env : Env} {σ : St} : exI TT fi K52_0 env σ = exI TT fi (.code B52_0 :: K52_0) env σ := by unfold K52_0; exact xI_lp
noncomputable def R52_0_0 : List It := .code (sndC (sndC (sndC (sndC (sndC (sndC (sndC b52))))))) :: []
theorem eK52_0_0 : exitA 0 K52_0 = some R52_0_0 := rfl
set_option maxHeartbeats 4000000 in
theorem s52 (b n k z : Nat) (v1 v2 : AV) (σ σ1 : St) (hk : k < n) (s1 : sliceA TT σ 51 (.sl b 0 n n) (some (.int .i64 k)) none = some v1) (s2 : sliceA TT σ 51 (.sl b 0 n n) none (some (.int .i64 k)) = some v2) (c1 : copyA TT σ 51 v1 v2 = some (.int .i64 z, σ1)) (hw : wrapA .i64 ((k : Int) + (z : Int)) = ((k + z : Nat) : Int)) :
    exI TT (FI.of Tryz.f52 (TT.an 52)) K52_0 [(7, .sl b 0 n n), (8, .int .i64 k)] σ = exI TT (FI.of Tryz.f52 (TT.an 52)) K52_0 [(7, .sl b 0 n n), (8, .int .i64 (k + z : Nat))] σ1 := by
  rw [fi52]
  conv => lhs; rw [xl52_0]
  simp only [B52_0, b52, Tryz.f52, Option.getD, fstC, sndC, bodyC, thnC, elsC]
  simp (maxSteps := 1000000) (disch := omega) [eK52_0_0, getCells, takeN, dropN, fieldAddrA, allOne, AV.one, n_push, putN, overN, blt_dec, buildA, sizesOf, fillA, putCells, List.take_succ_cons, List.take_zero, List.drop_succ_cons, List.drop_zero, List.nil_append, List.cons_append, List.length_cons, List.length_nil, eqvs_dgs, convA, hk, s1, s2, c1, hw]
set_option maxHeartbeats 4000000 in
theorem e52 (b n : Nat) (σ : St)  :
    exI TT (FI.of Tryz.f52 (TT.an 52)) K52_0 [(7, .sl b 0 n n), (8, .int .i64 n)] σ = some (.sl b 0 n n, σ) := by
  rw [fi52]
  conv => lhs; rw [xl52_0]
  simp only [B52_0, b52, Tryz.f52, Option.getD, fstC, sndC, bodyC, thnC, elsC]
  simp (maxSteps := 1000000) (disch := omega) [eK52_0_0, getCells, takeN, dropN, fieldAddrA, allOne, AV.one, n_push, putN, overN, blt_dec, buildA, sizesOf, fillA, putCells, List.take_succ_cons, List.take_zero, List.drop_succ_cons, List.drop_zero, List.nil_append, List.cons_append, List.length_cons, List.length_nil, eqvs_dgs, convA]
  simp only [R52_0_0, b52, Tryz.f52, Option.getD, fstC, sndC, bodyC, thnC, elsC]
  simp (maxSteps := 1000000) (disch := omega) [eK52_0_0, getCells, takeN, dropN, fieldAddrA, allOne, AV.one, n_push, putN, overN, blt_dec, buildA, sizesOf, fillA, putCells, List.take_succ_cons, List.take_zero, List.drop_succ_cons, List.drop_zero, List.nil_append, List.cons_append, List.length_cons, List.length_nil, eqvs_dgs, convA]
set_option maxHeartbeats 4000000 in
theorem b52e (c n b : Nat) (σ σ1 σ2 : St) (hn : (1 : Int) ≤ (n : Int)) (hn2 : (n : Int) ≤ 60) (w1 : wrapA .u64 (1 : Int) = 1) (w2 : wrapA .u64 (n : Int) = (n : Int)) (c1 : callI TT 78 [.int .u64 1, .int .u64 n] σ = some (.tup [.int .u64 0, .int .u64 n], σ)) (w3 : wrapA .i64 (n : Int) = (n : Int)) (c2 : makeSliceA TT σ 51 (.int .i64 n) (.int .i64 n) = some (.sl b 0 n n, σ1)) (c3 : copyA TT σ1 51 (.sl b 0 n n) (.sl c 0 1 1) = some (.int .i64 1, σ2)) :
    exI TT (FI.of Tryz.f52 (TT.an 52)) [.code b52] (paramsE 0 [.sl c 0 1 1, .int .i64 n]) σ = exI TT (FI.of Tryz.f52 (TT.an 52)) K52_0 [(7, .sl b 0 n n), (8, .int .i64 1)] σ2 := by
  rw [fi52]
  simp only [b52, Tryz.f52, Option.getD, fstC, sndC, bodyC, thnC, elsC]
  simp (maxSteps := 1000000) (disch := omega) [eK52_0_0, getCells, takeN, dropN, fieldAddrA, allOne, AV.one, n_push, putN, overN, blt_dec, buildA, sizesOf, fillA, putCells, List.take_succ_cons, List.take_zero, List.drop_succ_cons, List.drop_zero, List.nil_append, List.cons_append, List.length_cons, List.length_nil, eqvs_dgs, convA, hn, hn2, w1, w2, c1, w3, c2, c3]
  rfl
theorem l52 (q : Rat) (b n : Nat) (hn : n ≤ 60) : ∀ (m k : Nat) (σ : St), k + m = n → 1 ≤ k → RowE σ b 3 (filled q k m) → ∃ σ', exI TT (FI.of Tryz.f52 (TT.an 52)) K52_0 [(7, .sl b 0 n n), (8, .int .i64 k)] σ = some (.sl b 0 n n, σ') ∧ RowE σ' b 3 (filled q n 0) ∧ But b σ σ' := by
  intro m
  induction m using Nat.strongRecOn with
  | ind m ih =>
    intro k σ hk h1 hr
    rcases Nat.eq_zero_or_pos m with rfl | hm
    · obtain rfl : k = n := by omega
      exact ⟨σ, e52 b k σ, hr, rfl, fun _ _ => rfl⟩
    · have hs1 : sliceA TT σ 51 (.sl b 0 n n) (some (.int .i64 k)) none = some (.sl b (k * 3) (n - k) (n - k)) := by
        unfold sliceA
        simp only [ty51, ty57, boundA, Nat.le_refl, if_true, Int.toNat_natCast]
        rw [if_pos ⟨by omega, by omega⟩]
        simp only []
        rw [if_pos (by omega), Nat.zero_add]
      have hs2 : sliceA TT σ 51 (.sl b 0 n n) none (some (.int .i64 k)) = some (.sl b 0 k n) := by
        unfold sliceA
        simp only [ty51, ty57, boundA, Int.toNat_natCast]
        rw [if_pos ⟨by omega, by omega⟩]
        simp
      have hmin : Nat.min k (n - k) = min k m := by rw [show n - k = m by omega]
      have hck : min k m ≤ k := Nat.min_le_left _ _
      have hcm : min k m ≤ m := Nat.min_le_right _ _
      have hc1 : 1 ≤ min k m := Nat.le_min.2 ⟨h1, hm⟩
      have hr' : RowE σ b 3 (filled q k (min k m + (m - min k m))) := by rw [show min k m + (m - min k m) = m by omega]; exact hr
      obtain ⟨σ1, c1, c2⟩ := copy_rep (n := n - k) hr' hck (by omega)
      obtain ⟨d1, d2⟩ := c2 hmin
      rw [show k + (n - k) = n by omega, hmin] at c1
      obtain ⟨σ', g1, g2, g3⟩ := ih (m - min k m) (by omega) (k + min k m) σ1 (by omega) (by omega) d1
      exact ⟨σ', (s52 b n k (min k m) _ _ σ σ1 (by omega) hs1 hs2 c1 (by rw [← Int.natCast_add]; exact wrapA_id (by omega) (by omega))).trans g1, g2, g3.1.trans d2.1, fun c hc => (g3.2 c hc).trans (d2.2 c hc)⟩
theorem c52 (q : Rat) (c n : Nat) (h1 : 1 ≤ n) (hn : n ≤ 60) (σ : St) (hr : RowE σ c 3 (RC q)) : ∃ σ', callI TT 52 [.sl c 0 1 1, .int .i64 n] σ = some (.sl σ.n 0 n n, σ') ∧ RowE σ' σ.n 3 (flat RC (repQ q n)) ∧ Old σ σ' := by
  have hm := make_el (T := TT) (σ := σ) (st := 51) (n := n) ty51 ty57 (by decide) (by omega)
  have r0 : RowE (σ.push ⟨repeatCells [.bool false, .nilS, .nilS] n, 3, false⟩) σ.n 3 (filled q 0 (1 + (n - 1))) := by
    rw [show 1 + (n - 1) = n by omega]; exact RowE.push
  obtain ⟨σ2, a1, a2, a3⟩ := copy_one r0 hr.pushed
  rw [show 1 + (n - 1) = n by omega] at a1
  obtain ⟨σ', g1, g2, g3⟩ := l52 q σ.n n hn (n - 1) 1 σ2 (by omega) (Nat.le_refl _) a2
  refine ⟨σ', ?_, ?_, ?_, fun x hx => ?_⟩
  · rw [cI_0 (c := b52) fn52 rfl md52, ← g1]
    have cm := r78 1 n (by decide) (by omega) σ [.int .u64 (1 : Nat), .int .u64 n] rfl
    rw [Nat.one_mul] at cm
    exact b52e c n σ.n σ _ σ2 (by omega) (by omega) (by decide) (w64 (by omega)) cm (wrapA_id (by omega) (by omega)) hm a1
  · rw [filled, repeatCells, List.append_nil] at g2; exact g2
  · rw [g3.1, a3.1]; exact Nat.le_succ _
  · rw [g3.2 x (by omega), a3.2 x (by omega)]; exact get_push_lt hx

def atL (p : List Rat) (i : Nat) : Rat := p.getD i 0
theorem flat_set {α : Type} {f : α → List AV} {w : Nat} (hf : ∀ x, (f x).length = w) : ∀ (l : List α) (i : Nat) (x : α), i < l.length → putCells (flat f l) (i * w) (f x) = flat f (l.set i x)
  | [], i, x, h => by simp at h
  | y :: r, 0, x, h => by
    have := put_el (pre := []) (z := f y) (w := f x) (suf := flat f r) (by rw [hf, hf])
    rw [Nat.zero_mul]
    simpa [flat] using this
  | y :: r, i + 1, x, h => by
    have ih := flat_set hf r i x (by simpa using h)
    unfold putCells at ih ⊢
    have e : (i + 1) * w = (f y).length + i * w := by rw [hf, Nat.add_mul]; omega
    simp only [flat, List.flatMap_cons, List.set_cons_succ] at ih ⊢
    rw [← ih, e, List.take_append, List.take_of_length_le (by omega), Nat.add_sub_cancel_left, List.append_assoc, Nat.add_assoc, List.drop_append, List.drop_of_length_le (by omega), List.nil_append, Nat.add_sub_cancel_left]
    simp only [List.append_assoc]


/-- Ratios as fractions. -/
def frL (ps : List Rat) : List (Int × Int) := ps.map fun q => (q.num, (q.den : Int))
theorem frL_len (ps : List Rat) : (frL ps).length = ps.length := by simp [frL]
theorem frL_rq (ps : List Rat) : (frL ps).map rq = ps := by
  rw [frL, List.map_map]
  have : (fun q : Rat => rq (q.num, (q.den : Int))) = id := funext fun q => mk_self
  exact (congrArg (fun f => ps.map f) this).trans (List.map_id ps)
theorem fits_bds {ps : List Rat} (h : ∀ x ∈ ps, fits x = true) : ∀ x ∈ ps, Bd 60 x := fun x hx => by
  obtain ⟨h1, h2⟩ := fits_iff.1 (h x hx)
  exact ⟨Nat.lt_of_le_of_lt h1 (by decide), Nat.lt_of_le_of_lt h2 (by decide)⟩

noncomputable def b24 : Code := Tryz.f24.body.getD .skip
noncomputable def B24_0 : Code := (bodyC (bodyC (sndC (fstC (sndC (sndC b24))))))
noncomputable def K24_0 : List It := .lp B24_0 :: .blk 0 :: .code (sndC (sndC (sndC b24))) :: []
theorem xl24_0 {fi : FI} {env : Env} {σ : St} : exI TT fi K24_0 env σ = exI TT fi (.code B24_0 :: K24_0) env σ := by unfold K24_0; exact xI_lp
noncomputable def R24_0_0 : List It := .code (sndC (sndC (sndC b24))) :: []
theorem eK24_0_0 : exitA 0 K24_0 = some R24_0_0 := rfl
set_option maxHeartbeats 4000000 in
theorem s24 (n i b m b2 m2 : Nat) (cells x : List AV) (a d : Int) (σ σ2 σ3 σ4 σ5 : St) (hi : i < n) (l1 : cellsAt σ (.lp cells (i * 3)) 3 = some x) (hx : x.length = 3) (s1 : storeCellsA (σ.push ⟨[.bool false, .nilS, .nilS], 3, false⟩) σ.n 0 x = some σ2) (l6 : cellsAt σ2 (.ptr σ.n 0) 3 = some x) (c1 : ∀ σ, callI TT 28 [.agg x] σ = some (.tup [.agg [.int .i64 a, .int .i64 d], .bool true], σ)) (s2 : storeCellsA (σ2.push ⟨[.int .i64 0, .int .i64 0], 2, false⟩) σ2.n 0 [.int .i64 a, .int .i64 d] = some σ3) (l7 : cellsAt σ3 (.ptr σ2.n 0) 2 = some [.int .i64 a, .int .i64 d]) (c2 : buildSliceA TT σ3 24 1 [(0, .agg [.int .i64 a, .int .i64 d])] = some (.sl σ3.n 0 1 1, σ4)) (c3 : appendA TT σ4 24 24 (.sl b 0 m m) (.sl σ3.n 0 1 1) = some (.sl b2 0 m2 m2, σ5)) (hw : wrapA .i64 ((i : Int) + 1) = (i : Int) + 1) :
    exI TT (FI.of Tryz.f24 (TT.an 24)) K24_0 [(4, .sl b 0 m m), (10, .lst n cells), (11, .int .i64 n), (12, .int .i64 i)] σ = exI TT (FI.of Tryz.f24 (TT.an 24)) K24_0 [(4, .sl b2 0 m2 m2), (10, .lst n cells), (11, .int .i64 n), (12, .int .i64 ((i : Int) + 1))] σ5 := by
  rw [fi24]
  conv => lhs; rw [xl24_0]
  simp only [B24_0, b24, Tryz.f24, Option.getD, fstC, sndC, bodyC, thnC, elsC]
  simp (maxSteps := 1000000) (disch := omega) [eK24_0_0, getCells, takeN, dropN, fieldAddrA, allOne, AV.one, n_push, putN, overN, blt_dec, buildA, sizesOf, fillA, putCells, List.take_succ_cons, List.take_zero, List.drop_succ_cons, List.drop_zero, List.nil_append, List.cons_append, List.length_cons, List.length_nil, eqvs_dgs, convA, hi, l1, hx, s1, l6, c1, s2, l7, c2, c3, hw]
set_option maxHeartbeats 4000000 in
theorem e24 (n b m : Nat) (cells : List AV) (σ : St)  :
    exI TT (FI.of Tryz.f24 (TT.an 24)) K24_0 [(4, .sl b 0 m m), (10, .lst n cells), (11, .int .i64 n), (12, .int .i64 n)] σ = some (.tup [.sl b 0 m m, .bool true], σ) := by
  rw [fi24]
  conv => lhs; rw [xl24_0]
  simp only [B24_0, b24, Tryz.f24, Option.getD, fstC, sndC, bodyC, thnC, elsC]
  simp (maxSteps := 1000000) (disch := omega) [eK24_0_0, getCells, takeN, dropN, fieldAddrA, allOne, AV.one, n_push, putN, overN, blt_dec, buildA, sizesOf, fillA, putCells, List.take_succ_cons, List.take_zero, List.drop_succ_cons, List.drop_zero, List.nil_append, List.cons_append, List.length_cons, List.length_nil, eqvs_dgs]
  simp only [R24_0_0, b24, Tryz.f24, Option.getD, fstC, sndC, bodyC, thnC, elsC]
  simp (maxSteps := 1000000) (disch := omega) [eK24_0_0, getCells, takeN, dropN, fieldAddrA, allOne, AV.one, n_push, putN, overN, blt_dec, buildA, sizesOf, fillA, putCells, List.take_succ_cons, List.take_zero, List.drop_succ_cons, List.drop_zero, List.nil_append, List.cons_append, List.length_cons, List.length_nil, eqvs_dgs]
set_option maxHeartbeats 4000000 in
theorem b24e (n : Nat) (cells : List AV) (σ1 : St) (c1 : buildSliceA TT ⟨[], 0⟩ 24 0 [] = some (.sl 0 0 0 0, σ1)) :
    exI TT (FI.of Tryz.f24 (TT.an 24)) [.code b24] (paramsE 0 [.lst n cells]) ⟨[], 0⟩ = exI TT (FI.of Tryz.f24 (TT.an 24)) K24_0 [(4, .sl 0 0 0 0), (10, .lst n cells), (11, .int .i64 n), (12, .int .i64 0)] σ1 := by
  rw [fi24]
  simp only [b24, Tryz.f24, Option.getD, fstC, sndC, bodyC, thnC, elsC]
  simp (maxSteps := 1000000) (disch := omega) [eK24_0_0, getCells, takeN, dropN, fieldAddrA, allOne, AV.one, n_push, putN, overN, blt_dec, buildA, sizesOf, fillA, putCells, List.take_succ_cons, List.take_zero, List.drop_succ_cons, List.drop_zero, List.nil_append, List.cons_append, List.length_cons, List.length_nil, eqvs_dgs, c1]
  rfl
theorem l24 (ps : List Rat) (hf : ∀ x ∈ ps, fits x = true) (hs : ps.length ≤ 1000) : ∀ (m i b : Nat) (σ : St), i + m = ps.length → RowE σ b 2 (flat FC (frL (ps.take i))) →
    ∃ b' σ', exI TT (FI.of Tryz.f24 (TT.an 24)) K24_0 [(4, .sl b 0 i i), (10, RS ps), (11, .int .i64 ps.length), (12, .int .i64 i)] σ = some (.tup [.sl b' 0 ps.length ps.length, .bool true], σ') ∧ RowE σ' b' 2 (flat FC (frL ps)) := by
  intro m
  induction m with
  | zero =>
    intro i b σ hi hr
    obtain rfl : i = ps.length := by omega
    rw [List.take_of_length_le (Nat.le_refl _)] at hr
    exact ⟨b, σ, e24 ps.length b ps.length (flat RC ps) σ, hr⟩
  | succ m ih =>
    intro i b σ hi hr
    have hil : i < ps.length := by omega
    have hx := hf _ (List.getElem_mem hil)
    have hi1 : ((i + 1 : Nat) : Int) = (i : Int) + 1 := by omega
    obtain ⟨σ2, a1, a2, a3, a4⟩ := new_box (σ := σ) (z := [.bool false, .nilS, .nilS]) (x := RC ps[i]) (m := 3) rfl rfl
    obtain ⟨σ3, d1, d2, d3, d4⟩ := new_box (σ := σ2) (z := [.int .i64 0, .int .i64 0]) (x := [.int .i64 (ps[i]).num, .int .i64 ((ps[i]).den : Int)]) (m := 2) rfl rfl
    have c1 := fun σ => r28 (fits_bds hf _ (List.getElem_mem hil)) (by decide) σ [RT ps[i]] rfl
    rw [frA_yes hx] at c1
    have hr3 := (hr.old a3).old d3
    have c2 := build_el (T := TT) (σ := σ3) (st := 24) (w := [.int .i64 (ps[i]).num, .int .i64 ((ps[i]).den : Int)]) ty24 ty33 (by decide) rfl rfl rfl
    obtain ⟨σ5, g1, g2, _⟩ := append_el (T := TT) (st := 24) (n := i) (w := [.int .i64 (ps[i]).num, .int .i64 ((ps[i]).den : Int)]) ty24 ty33 (fun _ _ => trivial) (by decide) rfl rfl (by rw [flat_len FC_len, frL_len]; simp; omega) hr3 (by omega)
    have e : flat FC (frL (ps.take i)) ++ [.int .i64 (ps[i]).num, .int .i64 ((ps[i]).den : Int)] = flat FC (frL (ps.take (i + 1))) := by
      rw [List.take_succ_eq_append_getElem hil, frL, frL, List.map_append, flat_app]; simp [flat, FC]
    rw [e] at g2
    obtain ⟨b', σ', k1, k2⟩ := ih (i + 1) (σ3.n + 1) σ5 (by omega) g2
    rw [hi1] at k1
    refine ⟨b', σ', ?_, k2⟩
    rw [← k1]
    exact s24 ps.length i b i (σ3.n + 1) (i + 1) (flat RC ps) (RC ps[i]) _ _ σ σ2 σ3 _ σ5 hil (RS_get hil σ) rfl a1 (a2.rd rfl) c1 d1 (d2.rd rfl) c2 g1 (wrapA_id (by omega) (by omega))
theorem r24 (ps : List Rat) (hf : ∀ x ∈ ps, fits x = true) (hs : ps.length ≤ 1000) : FnF TT 24 [RS ps] (.tup [FS (frL ps), .bool true]) := by
  have hb := build_e0 (T := TT) (σ := ⟨[], 0⟩) (st := 24) ty24 ty33
  obtain ⟨b', σ', k1, k2⟩ := l24 ps hf hs ps.length 0 0 _ (by omega) (RowE.push (σ := ⟨[], 0⟩) (cs := []) (e := 2) (o := false))
  refine FnF.mk (c := b24) fn24 rfl md24 ⟨σ', _, (b24e _ _ _ hb).trans k1, ?_⟩
  have := k2.frz (d := 3) (n := ps.length) (c := ps.length) (by rw [flat_len FC_len, frL_len]) (FC_frz' σ' 3 _) (Nat.le_refl _)
  rw [show FS (frL ps) = .lst ps.length (flat FC (frL ps)) by rw [FS, frL_len]]
  exact frzV_tup (mapO_cons this (mapO_cons rfl rfl))
theorem frL_vfl {ps : List Rat} (hf : ∀ x ∈ ps, fits x = true) : vfl (frL ps) = true := by
  simp only [vfl, List.all_eq_true]
  intro x hx
  obtain ⟨y, hy, rfl⟩ := List.mem_map.1 hx
  exact vfr_of (hf y hy)

noncomputable def b18 : Code := Tryz.f18.body.getD .skip
noncomputable def B18_0 : Code := (bodyC (bodyC (sndC (fstC (sndC (sndC b18))))))
noncomputable def K18_0 : List It := .lp B18_0 :: .blk 0 :: .code (sndC (sndC (sndC b18))) :: []
theorem xl18_0 {fi : FI} {env : Env} {σ : St} : exI TT fi K18_0 env σ = exI TT fi (.code B18_0 :: K18_0) env σ := by unfold K18_0; exact xI_lp
noncomputable def R18_0_0 : List It := .code (sndC (sndC (sndC b18))) :: []
theorem eK18_0_0 : exitA 0 K18_0 = some R18_0_0 := rfl
set_option maxHeartbeats 4000000 in
theorem s18 (n i : Nat) (cells : List AV) (x1 x2 : Int) (σ : St) (hi : i < n) (g1 : cellsAt σ (.lp cells (i * 2)) 2 = some [.int .i64 x1, .int .i64 x2]) (hw : wrapA .i64 ((i : Int) + 1) = (i : Int) + 1) :
    exI TT (FI.of Tryz.f18 (TT.an 18)) K18_0 [(0, .lst n cells), (1, .lst n cells), (5, .int .i64 i)] σ = exI TT (FI.of Tryz.f18 (TT.an 18)) K18_0 [(0, .lst n cells), (1, .lst n cells), (5, .int .i64 ((i : Int) + 1))] σ := by
  rw [fi18]
  conv => lhs; rw [xl18_0]
  simp only [B18_0, b18, Tryz.f18, Option.getD, fstC, sndC, bodyC, thnC, elsC]
  simp (maxSteps := 1000000) (disch := omega) [eK18_0_0, getCells, takeN, dropN, fieldAddrA, allOne, AV.one, n_push, putN, overN, blt_dec, buildA, sizesOf, fillA, putCells, List.take_succ_cons, List.take_zero, List.drop_succ_cons, List.drop_zero, List.nil_append, List.cons_append, List.length_cons, List.length_nil, eqvs_dgs, convA, binNil, eqNil, eqStr, eqFs, Bool.and_self, Bool.and_true, hi, g1, hw]
set_option maxHeartbeats 4000000 in
theorem e18 (n : Nat) (cells : List AV) (σ : St)  :
    exI TT (FI.of Tryz.f18 (TT.an 18)) K18_0 [(0, .lst n cells), (1, .lst n cells), (5, .int .i64 n)] σ = some (.bool true, σ) := by
  rw [fi18]
  conv => lhs; rw [xl18_0]
  simp only [B18_0, b18, Tryz.f18, Option.getD, fstC, sndC, bodyC, thnC, elsC]
  simp (maxSteps := 1000000) (disch := omega) [eK18_0_0, getCells, takeN, dropN, fieldAddrA, allOne, AV.one, n_push, putN, overN, blt_dec, buildA, sizesOf, fillA, putCells, List.take_succ_cons, List.take_zero, List.drop_succ_cons, List.drop_zero, List.nil_append, List.cons_append, List.length_cons, List.length_nil, eqvs_dgs, convA]
  simp only [R18_0_0, b18, Tryz.f18, Option.getD, fstC, sndC, bodyC, thnC, elsC]
  simp (maxSteps := 1000000) (disch := omega) [eK18_0_0, getCells, takeN, dropN, fieldAddrA, allOne, AV.one, n_push, putN, overN, blt_dec, buildA, sizesOf, fillA, putCells, List.take_succ_cons, List.take_zero, List.drop_succ_cons, List.drop_zero, List.nil_append, List.cons_append, List.length_cons, List.length_nil, eqvs_dgs, convA]
set_option maxHeartbeats 4000000 in
theorem b18e (n : Nat) (cells : List AV) (σ : St)  :
    exI TT (FI.of Tryz.f18 (TT.an 18)) [.code b18] (paramsE 0 [.lst n cells, .lst n cells]) σ = exI TT (FI.of Tryz.f18 (TT.an 18)) K18_0 [(0, .lst n cells), (1, .lst n cells), (5, .int .i64 0)] σ := by
  rw [fi18]
  simp only [b18, Tryz.f18, Option.getD, fstC, sndC, bodyC, thnC, elsC]
  simp (maxSteps := 1000000) (disch := omega) [eK18_0_0, getCells, takeN, dropN, fieldAddrA, allOne, AV.one, n_push, putN, overN, blt_dec, buildA, sizesOf, fillA, putCells, List.take_succ_cons, List.take_zero, List.drop_succ_cons, List.drop_zero, List.nil_append, List.cons_append, List.length_cons, List.length_nil, eqvs_dgs, convA]
  rfl
theorem l18 (l : List (Int × Int)) (hs : l.length ≤ 1000) (σ : St) : ∀ (m i : Nat), i + m = l.length → exI TT (FI.of Tryz.f18 (TT.an 18)) K18_0 [(0, FS l), (1, FS l), (5, .int .i64 i)] σ = some (.bool true, σ) := by
  intro m
  induction m with
  | zero =>
    intro i hi
    obtain rfl : i = l.length := by omega
    exact e18 _ _ σ
  | succ m ih =>
    intro i hi
    have hil : i < l.length := by omega
    have h := ih (i + 1) (by omega)
    have hi1 : ((i + 1 : Nat) : Int) = (i : Int) + 1 := by omega
    rw [hi1] at h
    rw [← h]
    exact s18 l.length i (flat FC l) _ _ σ hil (FS_get hil σ) (wrapA_id (by omega) (by omega))
theorem r18 (l : List (Int × Int)) (hs : l.length ≤ 1000) : FnV TT 18 [FS l, FS l] (.bool true) :=
  FnV.mk (c := b18) fn18 rfl md18 ⟨⟨[], 0⟩, (b18e _ _ _).trans (l18 l hs ⟨[], 0⟩ l.length 0 (by omega))⟩ (fun _ => rfl) rfl

theorem sumI_congr {f g : Nat → Rat} : ∀ {n : Nat}, (∀ i, i < n → f i = g i) → sumI f n = sumI g n
  | 0, _ => rfl
  | n + 1, h => by rw [sumI, sumI, sumI_congr fun i hi => h i (by omega), h n (by omega)]
theorem sumI_add {f g : Nat → Rat} : ∀ n : Nat, sumI (fun i => f i + g i) n = sumI f n + sumI g n
  | 0 => by show (0 : Rat) = 0 + 0; grind
  | n + 1 => by rw [sumI, sumI, sumI, sumI_add n]; grind
theorem sumI_sub {f g : Nat → Rat} : ∀ n : Nat, sumI (fun i => f i - g i) n = sumI f n - sumI g n
  | 0 => by simp [sumI]; grind
  | n + 1 => by rw [sumI, sumI, sumI, sumI_sub n]; grind
theorem sumI_mul {f : Nat → Rat} {c : Rat} : ∀ n : Nat, sumI (fun i => c * f i) n = c * sumI f n
  | 0 => by simp [sumI]
  | n + 1 => by rw [sumI, sumI, sumI_mul n]; grind
theorem sumI_mulr {f : Nat → Rat} {c : Rat} (n : Nat) : sumI (fun i => f i * c) n = sumI f n * c := by
  rw [sumI_congr (g := fun i => c * f i) fun i _ => Rat.mul_comm _ _, sumI_mul, Rat.mul_comm]
theorem sumI_le {f g : Nat → Rat} : ∀ {n : Nat}, (∀ i, i < n → f i ≤ g i) → sumI f n ≤ sumI g n
  | 0, _ => Rat.le_refl
  | n + 1, h => by
    have h1 := sumI_le (n := n) fun i hi => h i (by omega)
    have h2 := h n (by omega)
    rw [sumI, sumI]; grind
theorem sumI_zero {f : Nat → Rat} {n : Nat} (h : ∀ i, i < n → f i = 0) : sumI f n = 0 := by
  rw [sumI_congr (g := fun _ => 0) h]
  induction n with
  | zero => rfl
  | succ n ih => rw [sumI, ih fun i hi => h i (by omega)]; grind
theorem sumI_nonneg {f : Nat → Rat} {n : Nat} (h : ∀ i, i < n → 0 ≤ f i) : 0 ≤ sumI f n := by
  have := sumI_le (f := fun _ => 0) (g := f) (n := n) h
  rw [sumI_zero fun _ _ => rfl] at this
  exact this
theorem sumI_one_le {f : Nat → Rat} {n : Nat} (h : ∀ i, i < n → 0 ≤ f i) {i : Nat} (hi : i < n) : f i ≤ sumI f n := by
  induction n with
  | zero => omega
  | succ n ih =>
    rw [sumI]
    have h1 := sumI_nonneg (f := f) (n := n) fun i hi => h i (by omega)
    have h2 := h n (by omega)
    rcases Nat.lt_or_ge i n with h3 | h3
    · have := ih (fun i hi => h i (by omega)) h3; grind
    · have : i = n := by omega
      subst this; grind
theorem sumI_comm {f : Nat → Nat → Rat} {m : Nat} : ∀ n : Nat, sumI (fun i => sumI (fun k => f i k) m) n = sumI (fun k => sumI (fun i => f i k) n) m
  | 0 => by rw [sumI_zero (f := fun k => sumI (fun i => f i k) 0) fun _ _ => rfl]; rfl
  | n + 1 => by
    rw [sumI, sumI_comm n, ← sumI_add]
    exact sumI_congr fun k _ => rfl
theorem abs_le {a b : Rat} (h1 : a ≤ b) (h2 : -a ≤ b) : a.abs ≤ b := by
  rcases Rat.le_total (a := 0) (b := a) with h | h
  · rw [Rat.abs_of_nonneg h]; exact h1
  · rw [Rat.abs_of_nonpos h]; exact h2
/-- A number of at least 0 over a denominator. -/
def Ov (D : Nat) (x : Rat) : Prop := ∃ m : Nat, x = (m : Rat) / (D : Rat)
theorem natCast_pos {D : Nat} (h : 0 < D) : (0 : Rat) < (D : Rat) := by
  have := Rat.natCast_lt_natCast.2 h
  simpa using this
theorem Ov.nonneg {D : Nat} {x : Rat} (hD : 0 < D) (h : Ov D x) : 0 ≤ x := by
  obtain ⟨m, rfl⟩ := h
  have h1 : (0 : Rat) ≤ (m : Rat) := Rat.natCast_nonneg
  have h2 := natCast_pos hD
  rw [Rat.div_def]
  exact Rat.mul_nonneg h1 (Rat.le_of_lt (Rat.inv_pos.2 h2))
theorem Ov.add {D : Nat} {x y : Rat} (h1 : Ov D x) (h2 : Ov D y) : Ov D (x + y) := by
  obtain ⟨a, rfl⟩ := h1
  obtain ⟨b, rfl⟩ := h2
  exact ⟨a + b, by rw [Rat.natCast_add, Rat.div_def, Rat.div_def, Rat.div_def]; grind⟩
theorem Ov.mul {D E : Nat} {x y : Rat} (h1 : Ov D x) (h2 : Ov E y) : Ov (D * E) (x * y) := by
  obtain ⟨a, rfl⟩ := h1
  obtain ⟨b, rfl⟩ := h2
  exact ⟨a * b, by rw [Rat.natCast_mul, Rat.natCast_mul, Rat.div_def, Rat.div_def, Rat.div_def, Rat.inv_mul_rev]; grind⟩
theorem Ov.scale {D E : Nat} {x : Rat} (h : Ov D x) (hE : 0 < E) : Ov (D * E) x := by
  obtain ⟨a, rfl⟩ := h
  have := natCast_pos hE
  refine ⟨a * E, ?_⟩
  rw [Rat.natCast_mul, Rat.natCast_mul, Rat.div_def, Rat.div_def, Rat.inv_mul_rev]
  have h2 : (E : Rat) * (E : Rat)⁻¹ = 1 := Rat.mul_inv_cancel _ (by grind)
  grind
theorem Ov.zero (D : Nat) : Ov D 0 := ⟨0, by rw [Rat.div_def, show ((0 : Nat) : Rat) = 0 from rfl, Rat.zero_mul]⟩
theorem Ov.sumI {D : Nat} {f : Nat → Rat} : ∀ n : Nat, (∀ i, i < n → Ov D (f i)) → Ov D (sumI f n)
  | 0, _ => Ov.zero D
  | n + 1, h => (Ov.sumI n fun i hi => h i (by omega)).add (h n (by omega))
theorem Ov.dist {D : Nat} {x y : Rat} (h1 : Ov D x) (h2 : Ov D y) : Ov D (x - y).abs := by
  obtain ⟨a, rfl⟩ := h1
  obtain ⟨b, rfl⟩ := h2
  rcases Nat.eq_zero_or_pos D with rfl | hD
  · refine ⟨0, ?_⟩
    have : ((0 : Nat) : Rat) = 0 := rfl
    rw [this, Rat.div_def, Rat.div_def, Rat.div_def, Rat.inv_zero]
    have : ((a : Rat) * 0 - (b : Rat) * 0) = 0 := by grind
    rw [this]; simp
  have hp := natCast_pos hD
  rcases Nat.le_total a b with h | h
  · refine ⟨b - a, ?_⟩
    have e : ((b - a : Nat) : Rat) = (b : Rat) - (a : Rat) := by
      have : (((b - a) + a : Nat) : Rat) = (b : Rat) := by rw [Nat.sub_add_cancel h]
      rw [Rat.natCast_add] at this; grind
    have hn : (a : Rat) ≤ (b : Rat) := Rat.natCast_le_natCast.2 h
    have hi := Rat.inv_pos.2 hp
    rw [e, Rat.div_def, Rat.div_def, Rat.div_def]
    have : 0 ≤ ((b : Rat) - a) * (D : Rat)⁻¹ := Rat.mul_nonneg (by grind) (Rat.le_of_lt hi)
    rw [Rat.abs_of_nonpos (by grind)]; grind
  · refine ⟨a - b, ?_⟩
    have e : ((a - b : Nat) : Rat) = (a : Rat) - (b : Rat) := by
      have : (((a - b) + b : Nat) : Rat) = (a : Rat) := by rw [Nat.sub_add_cancel h]
      rw [Rat.natCast_add] at this; grind
    have hn : (b : Rat) ≤ (a : Rat) := Rat.natCast_le_natCast.2 h
    have hi := Rat.inv_pos.2 hp
    rw [e, Rat.div_def, Rat.div_def, Rat.div_def]
    have : 0 ≤ ((a : Rat) - b) * (D : Rat)⁻¹ := Rat.mul_nonneg (by grind) (Rat.le_of_lt hi)
    rw [Rat.abs_of_nonneg (by grind)]; grind
theorem Ov.mk (m D : Nat) : Ov D (mkRat (m : Int) D) := by
  refine ⟨m, ?_⟩
  rw [Rat.mkRat_eq_div]; rfl
theorem Ov.as {D : Nat} {x : Rat} (h : Ov D x) : ∃ m : Nat, x = mkRat (m : Int) D := by
  obtain ⟨m, rfl⟩ := h
  refine ⟨m, ?_⟩
  rw [Rat.mkRat_eq_div]; rfl
theorem Ov.half {D : Nat} {x : Rat} (h : Ov D x) : Ov (D * 2) (x / 2) := by
  have h2 : Ov 2 (mkRat 1 2) := Ov.mk 1 2
  have := h.mul h2
  have e : x / 2 = x * mkRat 1 2 := by rw [Rat.div_def, show (2 : Rat)⁻¹ = mkRat 1 2 by decide +kernel]
  rw [e]; exact this
theorem Ov.fits {D : Nat} {x : Rat} (h : Ov D x) (hD : 0 < D) (h1 : x ≤ 1) (hb : D ≤ 1000000000000000000) : fits x = true := by
  have hx := h
  obtain ⟨m, e⟩ := h.as
  obtain ⟨m', e'⟩ := hx
  have hm : m ≤ D := by
    have hp := natCast_pos hD
    have e2 : mkRat (m : Int) D = (m : Rat) / (D : Rat) := by rw [Rat.mkRat_eq_div]; rfl
    rw [e2] at e
    rw [e, Rat.div_def] at h1
    have : (m : Rat) ≤ (D : Rat) := by
      have h3 : (m : Rat) * (D : Rat)⁻¹ * (D : Rat) ≤ 1 * (D : Rat) := Rat.mul_le_mul_of_nonneg_right h1 (Rat.le_of_lt hp)
      have h4 : (D : Rat)⁻¹ * (D : Rat) = 1 := Rat.inv_mul_cancel _ (by grind)
      rw [Rat.mul_assoc, h4, Rat.mul_one, Rat.one_mul] at h3
      exact h3
    exact Rat.natCast_le_natCast.1 this
  have := low_num false m D (by omega)
  obtain ⟨e1, e2, _⟩ := this
  rw [e]
  refine fits_iff.2 ⟨?_, ?_⟩
  · show nm (mkRat (sg false m) D) ≤ _
    rw [nm, e1]; exact Nat.le_trans (Nat.div_le_self _ _) (by omega)
  · show (mkRat (sg false m) D).den ≤ _
    rw [e2]; exact Nat.le_trans (Nat.div_le_self _ _) hb

theorem sumI_head {f : Nat → Rat} : ∀ n : Nat, sumI f (n + 1) = f 0 + sumI (fun i => f (i + 1)) n
  | 0 => by show 0 + f 0 = f 0 + 0; grind
  | n + 1 => by rw [sumI, sumI_head n, sumI]; grind
/-- The chances of weights. -/
def wq (T : Nat) (ws : List Nat) : List Rat := ws.map fun (x : Nat) => mkRat x T
theorem chsL_frL (ws : List Nat) : chsL ws = frL (wq ws.sum ws) := by simp [chsL, frL, wq]
/-- Chances over a denominator. -/
structure ChL (n D : Nat) (p : List Rat) : Prop where
  len : p.length = n
  ov : ∀ x ∈ p, Ov D x
  sum : sumI (atL p) n = 1
theorem atL_of {p : List Rat} {i : Nat} (h : i < p.length) : atL p i = p[i] := getD_of h
theorem wq_sum (T : Nat) : ∀ ws : List Nat, sumI (atL (wq T ws)) ws.length = mkRat (ws.sum : Nat) T
  | [] => by show (0 : Rat) = mkRat 0 T; rw [Rat.zero_mkRat]
  | x :: r => by
    rw [List.length_cons, sumI_head, List.sum_cons]
    have h1 : (fun i => atL (wq T (x :: r)) (i + 1)) = atL (wq T r) := funext fun i => by simp [atL, wq]
    have h2 : atL (wq T (x :: r)) 0 = mkRat x T := by simp [atL, wq]
    rw [h1, h2, wq_sum T r]
    rcases Nat.eq_zero_or_pos T with rfl | hT
    · rw [Rat.mkRat_zero, Rat.mkRat_zero, Rat.mkRat_zero]; grind
    · rw [Rat.mkRat_eq_div, Rat.mkRat_eq_div, Rat.mkRat_eq_div, Rat.div_def, Rat.div_def, Rat.div_def]
      simp only [Int.natCast_add, Rat.intCast_add]
      grind
theorem wq_ch {n : Nat} {ws : List Nat} (h : Wts n ws) : ChL n ws.sum (wq ws.sum ws) := by
  obtain ⟨h1, h2, h3⟩ := h
  refine ⟨by simp [wq, h1], fun x hx => ?_, ?_⟩
  · obtain ⟨y, _, rfl⟩ := List.mem_map.1 hx
    exact Ov.mk y _
  · rw [← h1, wq_sum, Rat.mkRat_eq_div, Rat.div_def]
    have : ((ws.sum : Nat) : Rat) ≠ 0 := by
      have := natCast_pos h3
      grind
    exact Rat.mul_inv_cancel _ this
theorem ChL.at {n D : Nat} {p : List Rat} (h : ChL n D p) (hD : 0 < D) (i : Nat) : Ov D (atL p i) ∧ 0 ≤ atL p i := by
  by_cases hi : i < p.length
  · rw [atL_of hi]
    have := h.ov _ (List.getElem_mem hi)
    exact ⟨this, this.nonneg hD⟩
  · have : atL p i = 0 := by simp [atL, List.getD_eq_getElem?_getD, List.getElem?_eq_none (Nat.not_lt.1 hi)]
    rw [this]; exact ⟨Ov.zero D, Rat.le_refl⟩
theorem ChL.le1 {n D : Nat} {p : List Rat} (h : ChL n D p) (hD : 0 < D) : ∀ x ∈ p, x ≤ 1 := by
  intro x hx
  obtain ⟨i, hi, rfl⟩ := List.getElem_of_mem hx
  have := sumI_one_le (f := atL p) (n := n) (fun i _ => (h.at hD i).2) (show i < n by rw [← h.len]; exact hi)
  rw [h.sum, atL_of hi] at this
  exact this
theorem ChL.fits {n D : Nat} {p : List Rat} (h : ChL n D p) (hD : 0 < D) (hb : D ≤ 1000000000000000000) : ∀ x ∈ p, fits x = true := fun x hx => (h.ov x hx).fits hD (h.le1 hD x hx) hb
theorem sumQ_sumI (l : List (Int × Int)) : ∀ i, i ≤ l.length → sumQ (l.take i) = sumI (atL (l.map rq)) i
  | 0, _ => by rw [List.take_zero]; rfl
  | i + 1, h => by
    rw [sumQ_succ l i h, sumQ_sumI l i (by omega), sumI, atL_of (by rw [List.length_map]; exact h)]
    simp
theorem ChL.isCh {n D : Nat} {p : List Rat} (h : ChL n D p) (h1 : 1 ≤ n) (h2 : n ≤ 16) (hD : 0 < D) (hb : D ≤ 1000000000000000000) : isCh (frL p) = true := by
  have hs := sumQ_sumI (frL p) (frL p).length (Nat.le_refl _)
  rw [List.take_of_length_le (Nat.le_refl _), frL_rq, frL_len, h.len, h.sum] at hs
  have hn : (frL p).all (fun x => decide (0 ≤ x.1)) = true := by
    rw [List.all_eq_true]
    intro x hx
    obtain ⟨y, hy, rfl⟩ := List.mem_map.1 hx
    exact decide_eq_true (Rat.num_nonneg.2 ((h.ov y hy).nonneg hD))
  unfold Go.Proofs.YtkglajdhlmmlfaaGreat.isCh
  rw [frL_len, h.len, decide_eq_true h1, decide_eq_true h2, frL_vfl (h.fits hD hb), hn, hs]
  rfl
/-! ### Steps -/
/-! ### Distances -/
theorem dist_ov {n D E : Nat} {p r : List Rat} (hp : ChL n D p) (hr : ChL n E r) (hD : 0 < D) (hE : 0 < E) : Ov (D * E * 2) (distQ p r) ∧ distQ p r ≤ 1 ∧ 0 ≤ distQ p r := by
  have hl := hp.len
  have ho : Ov (D * E) (sumI (adQ p r) p.length) := Ov.sumI _ fun i _ => by
    have h1 := (hp.at hD i).1.scale hE
    have h2 := (hr.at hE i).1.scale hD
    rw [Nat.mul_comm] at h2
    exact h1.dist h2
  have hle : sumI (adQ p r) n ≤ 2 := by
    have h1 : sumI (adQ p r) n ≤ sumI (fun i => atL p i + atL r i) n := sumI_le fun i _ => by
      have a := (hp.at hD i).2
      have b := (hr.at hE i).2
      show (atL p i - atL r i).abs ≤ _
      exact abs_le (by grind) (by grind)
    rw [sumI_add, hp.sum, hr.sum] at h1
    grind
  refine ⟨ho.half, ?_, ho.half.nonneg (by have := Nat.mul_pos hD hE; omega)⟩
  rw [distQ, hl]; grind
/-! ### The contraction -/
/-- The parity of a small number. -/
def parT (v : Nat) : Nat := [0, 1, 1, 0, 1, 0, 0, 1, 1, 0, 0, 1, 0, 1, 1, 0].getD v 0
theorem parT_le (v : Nat) : parT v ≤ 1 := by
  rcases Nat.lt_or_ge v 16 with h | h
  · have : ∀ v : Fin 16, parT v.val ≤ 1 := by decide
    exact this ⟨v, h⟩
  · unfold parT
    rw [List.getD_eq_getElem?_getD, List.getElem?_eq_none (by simpa using h)]; decide
theorem x79_0 : FnV TT 79 [.int .i64 0] (.int .i64 (parT 0 : Nat)) := FnV.mk fn79 rfl md79 (exI_of_exec (n := 1000) (by kernel_rfl)) (fun _ => rfl) rfl
theorem x79_1 : FnV TT 79 [.int .i64 1] (.int .i64 (parT 1 : Nat)) := FnV.mk fn79 rfl md79 (exI_of_exec (n := 1000) (by kernel_rfl)) (fun _ => rfl) rfl
theorem x79_2 : FnV TT 79 [.int .i64 2] (.int .i64 (parT 2 : Nat)) := FnV.mk fn79 rfl md79 (exI_of_exec (n := 1000) (by kernel_rfl)) (fun _ => rfl) rfl
theorem x79_3 : FnV TT 79 [.int .i64 3] (.int .i64 (parT 3 : Nat)) := FnV.mk fn79 rfl md79 (exI_of_exec (n := 1000) (by kernel_rfl)) (fun _ => rfl) rfl
theorem x79_4 : FnV TT 79 [.int .i64 4] (.int .i64 (parT 4 : Nat)) := FnV.mk fn79 rfl md79 (exI_of_exec (n := 1000) (by kernel_rfl)) (fun _ => rfl) rfl
theorem x79_5 : FnV TT 79 [.int .i64 5] (.int .i64 (parT 5 : Nat)) := FnV.mk fn79 rfl md79 (exI_of_exec (n := 1000) (by kernel_rfl)) (fun _ => rfl) rfl
theorem x79_6 : FnV TT 79 [.int .i64 6] (.int .i64 (parT 6 : Nat)) := FnV.mk fn79 rfl md79 (exI_of_exec (n := 1000) (by kernel_rfl)) (fun _ => rfl) rfl
theorem x79_7 : FnV TT 79 [.int .i64 7] (.int .i64 (parT 7 : Nat)) := FnV.mk fn79 rfl md79 (exI_of_exec (n := 1000) (by kernel_rfl)) (fun _ => rfl) rfl
theorem x79_8 : FnV TT 79 [.int .i64 8] (.int .i64 (parT 8 : Nat)) := FnV.mk fn79 rfl md79 (exI_of_exec (n := 1000) (by kernel_rfl)) (fun _ => rfl) rfl
theorem x79_9 : FnV TT 79 [.int .i64 9] (.int .i64 (parT 9 : Nat)) := FnV.mk fn79 rfl md79 (exI_of_exec (n := 1000) (by kernel_rfl)) (fun _ => rfl) rfl
theorem x79_10 : FnV TT 79 [.int .i64 10] (.int .i64 (parT 10 : Nat)) := FnV.mk fn79 rfl md79 (exI_of_exec (n := 1000) (by kernel_rfl)) (fun _ => rfl) rfl
theorem x79_11 : FnV TT 79 [.int .i64 11] (.int .i64 (parT 11 : Nat)) := FnV.mk fn79 rfl md79 (exI_of_exec (n := 1000) (by kernel_rfl)) (fun _ => rfl) rfl
theorem x79_12 : FnV TT 79 [.int .i64 12] (.int .i64 (parT 12 : Nat)) := FnV.mk fn79 rfl md79 (exI_of_exec (n := 1000) (by kernel_rfl)) (fun _ => rfl) rfl
theorem x79_13 : FnV TT 79 [.int .i64 13] (.int .i64 (parT 13 : Nat)) := FnV.mk fn79 rfl md79 (exI_of_exec (n := 1000) (by kernel_rfl)) (fun _ => rfl) rfl
theorem x79_14 : FnV TT 79 [.int .i64 14] (.int .i64 (parT 14 : Nat)) := FnV.mk fn79 rfl md79 (exI_of_exec (n := 1000) (by kernel_rfl)) (fun _ => rfl) rfl
theorem x79_15 : FnV TT 79 [.int .i64 15] (.int .i64 (parT 15 : Nat)) := FnV.mk fn79 rfl md79 (exI_of_exec (n := 1000) (by kernel_rfl)) (fun _ => rfl) rfl
theorem r79 (v : Nat) (h : v < 16) : FnV TT 79 [.int .i64 v] (.int .i64 (parT v : Nat)) := by
  have : v = 0 ∨ v = 1 ∨ v = 2 ∨ v = 3 ∨ v = 4 ∨ v = 5 ∨ v = 6 ∨ v = 7 ∨ v = 8 ∨ v = 9 ∨ v = 10 ∨ v = 11 ∨ v = 12 ∨ v = 13 ∨ v = 14 ∨ v = 15 := by omega
  rcases this with rfl | rfl | rfl | rfl | rfl | rfl | rfl | rfl | rfl | rfl | rfl | rfl | rfl | rfl | rfl | rfl
  · exact x79_0
  · exact x79_1
  · exact x79_2
  · exact x79_3
  · exact x79_4
  · exact x79_5
  · exact x79_6
  · exact x79_7
  · exact x79_8
  · exact x79_9
  · exact x79_10
  · exact x79_11
  · exact x79_12
  · exact x79_13
  · exact x79_14
  · exact x79_15
def nintsL (l : List Nat) : List Int := l.map fun (x : Nat) => (x : Int)
/-- The number that rows make of a number. -/
def appR (x : Nat) : List Nat → Nat → Nat → Nat
  | [], _, out => out
  | r :: t, i, out => appR x t (i + 1) (out ||| parT (r &&& x) * 2 ^ i)
theorem appR_lt (x : Nat) : ∀ (l : List Nat) (i out : Nat), out < 2 ^ i → appR x l i out < 2 ^ (i + l.length)
  | [], i, out, h => h
  | r :: t, i, out, h => by
    rw [appR, List.length_cons, show i + (t.length + 1) = i + 1 + t.length by omega]
    refine appR_lt x t (i + 1) _ (Nat.or_lt_two_pow (Nat.lt_of_lt_of_le h (Nat.pow_le_pow_right (by decide) (by omega))) ?_)
    have := Nat.mul_le_mul_right (2 ^ i) (parT_le (r &&& x))
    have h2 := Nat.two_pow_pos i
    rw [Nat.pow_succ]; omega

noncomputable def b53 : Code := Tryz.f53.body.getD .skip
noncomputable def B53_0 : Code := (bodyC (bodyC (sndC (fstC (sndC (sndC b53))))))
noncomputable def K53_0 : List It := .lp B53_0 :: .blk 0 :: .code (sndC (sndC (sndC b53))) :: []
theorem xl53_0 {fi : FI} {env : Env} {σ : St} : exI TT fi K53_0 env σ = exI TT fi (.code B53_0 :: K53_0) env σ := by unfold K53_0; exact xI_lp
noncomputable def R53_0_0 : List It := .code (sndC (sndC (sndC b53))) :: []
theorem eK53_0_0 : exitA 0 K53_0 = some R53_0_0 := rfl
set_option maxHeartbeats 4000000 in
theorem s53 (n i : Nat) (cells : List AV) (x o r v w y z : Int) (σ : St) (hi : i < n) (l1 : cellsAt σ (.lp cells i) 1 = some [.int .i64 r]) (a1 : bitsA .and .i64 r x = some (.int .i64 v)) (c1 : ∀ σ, callI TT 79 [.int .i64 v] σ = some (.int .i64 w, σ)) (h1 : wrapA .i64 (shlA w (min i IntKind.i64.bits)) = y) (o1 : bitsA .or .i64 o y = some (.int .i64 z)) (hw : wrapA .i64 ((i : Int) + 1) = (i : Int) + 1) :
    exI TT (FI.of Tryz.f53 (TT.an 53)) K53_0 [(1, .int .i64 x), (5, .int .i64 o), (8, .lst n cells), (9, .int .i64 n), (10, .int .i64 i)] σ = exI TT (FI.of Tryz.f53 (TT.an 53)) K53_0 [(1, .int .i64 x), (5, .int .i64 z), (8, .lst n cells), (9, .int .i64 n), (10, .int .i64 ((i : Int) + 1))] σ := by
  rw [fi53]
  conv => lhs; rw [xl53_0]
  simp only [B53_0, b53, Tryz.f53, Option.getD, fstC, sndC, bodyC, thnC, elsC]
  simp (maxSteps := 1000000) (disch := omega) [eK53_0_0, getCells, takeN, dropN, fieldAddrA, allOne, AV.one, n_push, putN, overN, blt_dec, buildA, sizesOf, fillA, putCells, List.take_succ_cons, List.take_zero, List.drop_succ_cons, List.drop_zero, List.nil_append, List.cons_append, List.length_cons, List.length_nil, eqvs_dgs, convA, hi, l1, a1, c1, h1, o1, hw]
set_option maxHeartbeats 4000000 in
theorem e53 (n : Nat) (cells : List AV) (x o : Int) (σ : St)  :
    exI TT (FI.of Tryz.f53 (TT.an 53)) K53_0 [(1, .int .i64 x), (5, .int .i64 o), (8, .lst n cells), (9, .int .i64 n), (10, .int .i64 n)] σ = some (.int .i64 o, σ) := by
  rw [fi53]
  conv => lhs; rw [xl53_0]
  simp only [B53_0, b53, Tryz.f53, Option.getD, fstC, sndC, bodyC, thnC, elsC]
  simp (maxSteps := 1000000) (disch := omega) [eK53_0_0, getCells, takeN, dropN, fieldAddrA, allOne, AV.one, n_push, putN, overN, blt_dec, buildA, sizesOf, fillA, putCells, List.take_succ_cons, List.take_zero, List.drop_succ_cons, List.drop_zero, List.nil_append, List.cons_append, List.length_cons, List.length_nil, eqvs_dgs, convA]
  simp only [R53_0_0, b53, Tryz.f53, Option.getD, fstC, sndC, bodyC, thnC, elsC]
  simp (maxSteps := 1000000) (disch := omega) [eK53_0_0, getCells, takeN, dropN, fieldAddrA, allOne, AV.one, n_push, putN, overN, blt_dec, buildA, sizesOf, fillA, putCells, List.take_succ_cons, List.take_zero, List.drop_succ_cons, List.drop_zero, List.nil_append, List.cons_append, List.length_cons, List.length_nil, eqvs_dgs, convA]
set_option maxHeartbeats 4000000 in
theorem b53e (n : Nat) (cells : List AV) (x : Int) (σ : St)  :
    exI TT (FI.of Tryz.f53 (TT.an 53)) [.code b53] (paramsE 0 [.lst n cells, .int .i64 x]) σ = exI TT (FI.of Tryz.f53 (TT.an 53)) K53_0 [(1, .int .i64 x), (5, .int .i64 0), (8, .lst n cells), (9, .int .i64 n), (10, .int .i64 0)] σ := by
  rw [fi53]
  simp only [b53, Tryz.f53, Option.getD, fstC, sndC, bodyC, thnC, elsC]
  simp (maxSteps := 1000000) (disch := omega) [eK53_0_0, getCells, takeN, dropN, fieldAddrA, allOne, AV.one, n_push, putN, overN, blt_dec, buildA, sizesOf, fillA, putCells, List.take_succ_cons, List.take_zero, List.drop_succ_cons, List.drop_zero, List.nil_append, List.cons_append, List.length_cons, List.length_nil, eqvs_dgs, convA]
  rfl
theorem l53 (l : List Nat) (hl : ∀ r ∈ l, r < 16) (hn : l.length ≤ 10) (x : Nat) (hx : x < 16) (σ : St) : ∀ (m i o : Nat), i + m = l.length → o < 2 ^ i → exI TT (FI.of Tryz.f53 (TT.an 53)) K53_0 [(1, .int .i64 x), (5, .int .i64 o), (8, .lst l.length (ints (nintsL l))), (9, .int .i64 l.length), (10, .int .i64 i)] σ = some (.int .i64 (appR x (l.drop i) i o), σ) := by
  intro m
  induction m with
  | zero =>
    intro i o hi ho
    obtain rfl : i = l.length := by omega
    rw [List.drop_of_length_le (Nat.le_refl _)]
    exact e53 _ _ x o σ
  | succ m ih =>
    intro i o hi ho
    have hil : i < l.length := by omega
    have hi1 : ((i + 1 : Nat) : Int) = (i : Int) + 1 := by omega
    have hr := hl _ (List.getElem_mem hil)
    have l1 := lp_read (σ := σ) (l := nintsL l) (i := i) (by simpa [nintsL] using hil)
    have hat : at0 (nintsL l) i = (l[i] : Nat) := by rw [at0, List.getD_eq_getElem?_getD]; simp [nintsL, hil]
    rw [hat] at l1
    have hv : l[i] &&& x < 16 := Nat.lt_of_le_of_lt Nat.and_le_left hr
    have hw := parT_le (l[i] &&& x)
    have hp : 2 ^ i ≤ 2 ^ 10 := Nat.pow_le_pow_right (by decide) (by omega)
    have hp0 := Nat.two_pow_pos i
    have hy : parT (l[i] &&& x) * 2 ^ i ≤ 1 * 2 ^ i := Nat.mul_le_mul_right _ hw
    have ho2 : o ||| parT (l[i] &&& x) * 2 ^ i < 2 ^ (i + 1) := Nat.or_lt_two_pow (by rw [Nat.pow_succ]; omega) (by rw [Nat.pow_succ]; omega)
    have h := ih (i + 1) _ (by omega) ho2
    rw [hi1] at h
    rw [List.drop_eq_getElem_cons hil, appR, ← h]
    have hsh : wrapA .i64 (shlA ((parT (l[i] &&& x) : Nat) : Int) (min i IntKind.i64.bits)) = ((parT (l[i] &&& x) * 2 ^ i : Nat) : Int) := by
      rw [Nat.min_eq_left (by simp [IntKind.bits]; omega), w_shl]
      exact wrapA_id (by omega) (by omega)
    exact s53 l.length i _ x o _ _ _ _ _ σ hil l1 (w_and .i64 (by simp only [topOf]; omega) (by simp only [topOf]; omega)) (fun σ => r79 _ hv σ _ rfl) hsh (w_or .i64 (by simp only [topOf]; omega) (by simp only [topOf]; omega)) (wrapA_id (by omega) (by omega))
theorem r53 (l : List Nat) (hl : ∀ r ∈ l, r < 16) (hn : l.length ≤ 10) (x : Nat) (hx : x < 16) : FnV TT 53 [.lst l.length (ints (nintsL l)), .int .i64 x] (.int .i64 (appR x l 0 0)) := by
  have h := l53 l hl hn x hx ⟨[], 0⟩ l.length 0 0 (by omega) (by decide)
  rw [List.drop_zero] at h
  exact FnV.mk (c := b53) fn53 rfl md53 ⟨⟨[], 0⟩, (b53e _ _ _ _).trans h⟩ (fun _ => rfl) rfl
/-- The chances of the numbers that rows make, of the first ones of a source. -/
def exT (l : List Nat) (p : List Rat) (k x0 : Nat) : Rat := sumI (fun x => if appR x l 0 0 = k then atL p x else 0) x0
def exL (l : List Nat) (p : List Rat) (x0 : Nat) : List Rat := (List.range (2 ^ l.length)).map fun k => exT l p k x0
theorem exL_len (l : List Nat) (p : List Rat) (x0 : Nat) : (exL l p x0).length = 2 ^ l.length := by simp [exL]
theorem exL_get (l : List Nat) (p : List Rat) (x0 : Nat) {k : Nat} (h : k < 2 ^ l.length) : (exL l p x0)[k]? = some (exT l p k x0) := by simp [exL, h]
theorem exL_set (l : List Nat) (p : List Rat) (x0 : Nat) : (exL l p x0).set (appR x0 l 0 0) (exT l p (appR x0 l 0 0) x0 + atL p x0) = exL l p (x0 + 1) := by
  have hA : appR x0 l 0 0 < 2 ^ l.length := by have := appR_lt x0 l 0 0 (by decide); rwa [Nat.zero_add] at this
  apply List.ext_getElem?
  intro j
  rw [List.getElem?_set]
  by_cases hj : appR x0 l 0 0 = j
  · subst hj
    rw [if_pos rfl, exL_len, if_pos hA, exL_get l p _ hA]
    congr 1
    show _ = sumI _ (x0 + 1)
    rw [sumI, if_pos rfl]; rfl
  · rw [if_neg hj]
    by_cases hjn : j < 2 ^ l.length
    · rw [exL_get l p _ hjn, exL_get l p _ hjn]
      congr 1
      show _ = sumI _ (x0 + 1)
      rw [sumI, if_neg hj, Rat.add_zero]; rfl
    · rw [List.getElem?_eq_none (by rw [exL_len]; omega), List.getElem?_eq_none (by rw [exL_len]; omega)]
theorem exT_bd {l : List Nat} {p : List Rat} (hp : ∀ x ∈ p, Bd 60 x) (k : Nat) (x0 : Nat) : Bd (2 + x0 * 61) (exT l p k x0) := by
  refine sumI_bd x0 fun i hi => ?_
  split
  · by_cases h : i < p.length
    · rw [atL_of h]; exact hp _ (List.getElem_mem h)
    · have : atL p i = 0 := by simp [atL, List.getD_eq_getElem?_getD, List.getElem?_eq_none (Nat.not_lt.1 h)]
      rw [this]; exact (show Bd 2 (0 : Rat) from ⟨by decide +kernel, by decide +kernel⟩).mono (by decide)
  · exact (show Bd 2 (0 : Rat) from ⟨by decide +kernel, by decide +kernel⟩).mono (by decide)

theorem nintsL_len (l : List Nat) : (nintsL l).length = l.length := by simp [nintsL]
theorem eqvs_ints : ∀ l : List Int, eqvs (ints l) (ints l) = true
  | [] => rfl
  | x :: r => by simp [ints, eqvs, AV.eqv]; exact eqvs_ints r
/-- A list of numbers, frozen or in the heap. -/
def RvL (σ : St) (v : AV) (l : List Int) : Prop := v = .lst l.length (ints l) ∨ ∃ b, v = .sl b 0 l.length l.length ∧ Row σ b l
theorem RvL.frz {σ : St} {v : AV} {l : List Int} (h : RvL σ v l) : frzV σ frzDepth v = some (.lst l.length (ints l)) := by
  rcases h with rfl | ⟨b, rfl, hr⟩
  · rfl
  · exact hr.frz (d := 4) rfl (Nat.le_refl _)
theorem RvL.old {σ σ' : St} {v : AV} {l : List Int} (h : RvL σ v l) (k : Old σ σ') : RvL σ' v l := by
  rcases h with rfl | ⟨b, rfl, o, hg, hb⟩
  · exact .inl rfl
  · exact .inr ⟨b, rfl, o, (k.2 b hb).trans hg, Nat.lt_of_lt_of_le hb k.1⟩
/-- Two arguments that are rows and are given away. -/
theorem _root_.Go.Abs.FnF.rowE22 {T : Tab} {f : FuncId} {v : AV} {cs c1 : List AV} {e n : Nat} (h : FnF T f [.lst n c1, .lst n cs] v) {σ : St} {a b : Nat} (ha : RowE σ a e c1) (hr : RowE σ b e cs) (hl1 : c1.length = n * e) (hl : cs.length = n * e) (hf1 : mapO (frzV σ 5) c1 = some c1) (hf : mapO (frzV σ 5) cs = some cs) (h01 : c1.flatMap (rowsV σ 5) = []) (h0 : cs.flatMap (rowsV σ 5) = []) : ∃ σ', callI T f [.sl a 0 n n, .sl b 0 n n] σ = some (v, σ') ∧ σ'.n = σ.n ∧ ∀ c, c ≠ a → c ≠ b → σ'.get c = σ.get c := by
  refine ⟨_, h σ [.sl a 0 n n, .sl b 0 n n] (mapO_cons (ha.frz (d := 4) hl1 hf1 (Nat.le_refl _)) (mapO_cons (hr.frz (d := 4) hl hf (Nat.le_refl _)) rfl)), ?_⟩
  split
  · exact ⟨rfl, fun _ _ _ => rfl⟩
  · have r1 : ∀ {x : Nat} {w : List AV}, RowE σ x e w → w.length = n * e → w.flatMap (rowsV σ 5) = [] → rowsV σ frzDepth (.sl x 0 n n) = [x] := by
      intro x w hx hw h0
      obtain ⟨o, hg, _⟩ := hx
      have : getCells w 0 (n * e) = some w := by rw [getCells_eq, if_pos (by omega), List.drop_zero, List.take_of_length_le (by omega)]
      rw [show frzDepth = 5 + 1 from rfl]
      unfold rowsV
      simp only [hg, this, h0]
    have : [AV.sl a 0 n n, AV.sl b 0 n n].flatMap (rowsV σ frzDepth) = [a, b] := by
      show rowsV σ frzDepth (.sl a 0 n n) ++ (rowsV σ frzDepth (.sl b 0 n n) ++ []) = [a, b]
      rw [r1 ha hl1 h01, r1 hr hl h0]; rfl
    rw [this]
    exact ⟨rfl, fun x hx hy => (get_del_ne (fun e => hy e.symm)).trans (get_del_ne (fun e => hx e.symm))⟩

set_option maxHeartbeats 4000000 in
theorem k55 (n : Nat) (c : List AV)  :
    ∃ σ', exI TT (FI.of Tryz.f55 (TT.an 55)) [.code (Tryz.f55.body.getD .skip)] (paramsE 0 [.lst n c]) ⟨[], 0⟩ = some (.int .i64 n, σ') := by
  refine ex1 ?_
  rw [fi55]
  simp only [Tryz.f55, Option.getD]
  simp (maxSteps := 1000000) (disch := omega) [cellsAt, getCells, takeN, dropN, fieldAddrA, allOne, AV.one, n_push, storeCellsA, putN, overN, St.push, St.get, St.set, hget, hset, blt_dec, buildA, sizesOf, fillA, putCells, List.take_succ_cons, List.take_zero, List.drop_succ_cons, List.drop_zero, List.nil_append, List.cons_append, List.length_cons, List.length_nil, eqvs_dgs, convA]
theorem r55 (n : Nat) (c : List AV) : FnV TT 55 [.lst n c] (.int .i64 n) := FnV.mk fn55 rfl md55 (k55 n c) (fun _ => rfl) rfl
noncomputable def b25 : Code := Tryz.f25.body.getD .skip
noncomputable def B25_0 : Code := (bodyC (bodyC (sndC (fstC (sndC (sndC b25))))))
noncomputable def K25_0 : List It := .lp B25_0 :: .blk 0 :: .code (sndC (sndC (sndC b25))) :: []
theorem xl25_0 {fi : FI} {env : Env} {σ : St} : exI TT fi K25_0 env σ = exI TT fi (.code B25_0 :: K25_0) env σ := by unfold K25_0; exact xI_lp
noncomputable def R25_0_0 : List It := .code (sndC (sndC (sndC b25))) :: []
theorem eK25_0_0 : exitA 0 K25_0 = some R25_0_0 := rfl
set_option maxHeartbeats 4000000 in
theorem s25 (rv : AV) (N n b i k : Nat) (cells x s u : List AV) (σ σ2 σ3 : St) (hi : i < n) (l1 : cellsAt σ (.lp cells (i * 3)) 3 = some x) (hx : x.length = 3) (s1 : storeCellsA (σ.push ⟨[.bool false, .nilS, .nilS], 3, false⟩) σ.n 0 x = some σ2) (hic : wrapA .i64 (i : Int) = (i : Int)) (c1 : callI TT 53 [rv, .int .i64 i] σ2 = some (.int .i64 k, σ2)) (hk : k < N) (lo : cellsAt σ2 (.ptr b (k * 3)) 3 = some s) (l7 : cellsAt σ2 (.ptr σ.n 0) 3 = some x) (c2 : ∀ σ, callI TT 32 [.agg s, .agg x] σ = some (.agg u, σ)) (hes : eqvs s s = true) (hex : eqvs x x = true) (hu : u.length = 3) (s2 : storeCellsA σ2 b (k * 3) u = some σ3) (hw : wrapA .i64 ((i : Int) + 1) = (i : Int) + 1) :
    exI TT (FI.of Tryz.f25 (TT.an 25)) K25_0 [(0, rv), (5, .sl b 0 N N), (15, .lst n cells), (16, .int .i64 n), (17, .int .i64 i)] σ = exI TT (FI.of Tryz.f25 (TT.an 25)) K25_0 [(0, rv), (5, .sl b 0 N N), (15, .lst n cells), (16, .int .i64 n), (17, .int .i64 ((i : Int) + 1))] σ3 := by
  rw [fi25]
  conv => lhs; rw [xl25_0]
  simp only [B25_0, b25, Tryz.f25, Option.getD, fstC, sndC, bodyC, thnC, elsC]
  simp (maxSteps := 1000000) (disch := omega) [eK25_0_0, getCells, takeN, dropN, fieldAddrA, allOne, AV.one, n_push, putN, overN, blt_dec, buildA, sizesOf, fillA, putCells, List.take_succ_cons, List.take_zero, List.drop_succ_cons, List.drop_zero, List.nil_append, List.cons_append, List.length_cons, List.length_nil, eqvs_dgs, convA, hi, l1, hx, s1, hic, c1, hk, lo, l7, c2, hes, hex, hu, s2, hw]
set_option maxHeartbeats 4000000 in
theorem e25 (rv : AV) (N n b : Nat) (cells : List AV) (σ : St)  :
    exI TT (FI.of Tryz.f25 (TT.an 25)) K25_0 [(0, rv), (5, .sl b 0 N N), (15, .lst n cells), (16, .int .i64 n), (17, .int .i64 n)] σ = some (.sl b 0 N N, σ) := by
  rw [fi25]
  conv => lhs; rw [xl25_0]
  simp only [B25_0, b25, Tryz.f25, Option.getD, fstC, sndC, bodyC, thnC, elsC]
  simp (maxSteps := 1000000) (disch := omega) [eK25_0_0, getCells, takeN, dropN, fieldAddrA, allOne, AV.one, n_push, putN, overN, blt_dec, buildA, sizesOf, fillA, putCells, List.take_succ_cons, List.take_zero, List.drop_succ_cons, List.drop_zero, List.nil_append, List.cons_append, List.length_cons, List.length_nil, eqvs_dgs, convA]
  simp only [R25_0_0, b25, Tryz.f25, Option.getD, fstC, sndC, bodyC, thnC, elsC]
  simp (maxSteps := 1000000) (disch := omega) [eK25_0_0, getCells, takeN, dropN, fieldAddrA, allOne, AV.one, n_push, putN, overN, blt_dec, buildA, sizesOf, fillA, putCells, List.take_succ_cons, List.take_zero, List.drop_succ_cons, List.drop_zero, List.nil_append, List.cons_append, List.length_cons, List.length_nil, eqvs_dgs, convA]
set_option maxHeartbeats 4000000 in
theorem b25e (rr : Nat) (rows : List AV) (m n b N : Nat) (cells o : List AV) (σ σ1 σ2 : St) (c1 : ∀ σ, callI TT 29 [.int .i64 0] σ = some (.agg o, σ)) (c2 : buildSliceA TT σ 51 1 [(0, .agg o)] = some (.sl σ.n 0 1 1, σ1)) (hrv : eqvs rows rows = true) (hs : wrapA .i64 (shlA 1 (min m IntKind.i64.bits)) = (N : Int)) (c3 : callI TT 52 [.sl σ.n 0 1 1, .int .i64 N] σ1 = some (.sl b 0 N N, σ2)) (heo : eqvs o o = true) :
    exI TT (FI.of Tryz.f25 (TT.an 25)) [.code b25] (paramsE 0 [.lst m rows, .lst n cells]) σ = exI TT (FI.of Tryz.f25 (TT.an 25)) K25_0 [(0, .lst m rows), (5, .sl b 0 N N), (15, .lst n cells), (16, .int .i64 n), (17, .int .i64 0)] σ2 := by
  rw [fi25]
  simp only [b25, Tryz.f25, Option.getD, fstC, sndC, bodyC, thnC, elsC]
  simp (maxSteps := 1000000) (disch := omega) [eK25_0_0, getCells, takeN, dropN, fieldAddrA, allOne, AV.one, n_push, putN, overN, blt_dec, buildA, sizesOf, fillA, putCells, List.take_succ_cons, List.take_zero, List.drop_succ_cons, List.drop_zero, List.nil_append, List.cons_append, List.length_cons, List.length_nil, eqvs_dgs, convA, c1, c2, hrv, hs, c3, heo]
  rfl
set_option maxHeartbeats 4000000 in
theorem b25d (rr : Nat) (rows : List AV) (m n b N : Nat) (cells o : List AV) (σ σ1 σ2 : St) (c1 : ∀ σ, callI TT 29 [.int .i64 0] σ = some (.agg o, σ)) (c2 : buildSliceA TT σ 51 1 [(0, .agg o)] = some (.sl σ.n 0 1 1, σ1)) (hrv : eqvs rows rows = true) (hs : wrapA .i64 (shlA 1 (min m IntKind.i64.bits)) = (N : Int)) (c3 : callI TT 52 [.sl σ.n 0 1 1, .int .i64 N] σ1 = some (.sl b 0 N N, σ2)) (heo : eqvs o o = true) :
    exI TT (FI.of Tryz.f25 (TT.an 25)) [.code b25] (paramsE 0 [.sl rr 0 m m, .lst n cells]) σ = exI TT (FI.of Tryz.f25 (TT.an 25)) K25_0 [(0, .sl rr 0 m m), (5, .sl b 0 N N), (15, .lst n cells), (16, .int .i64 n), (17, .int .i64 0)] σ2 := by
  rw [fi25]
  simp only [b25, Tryz.f25, Option.getD, fstC, sndC, bodyC, thnC, elsC]
  simp (maxSteps := 1000000) (disch := omega) [eK25_0_0, getCells, takeN, dropN, fieldAddrA, allOne, AV.one, n_push, putN, overN, blt_dec, buildA, sizesOf, fillA, putCells, List.take_succ_cons, List.take_zero, List.drop_succ_cons, List.drop_zero, List.nil_append, List.cons_append, List.length_cons, List.length_nil, eqvs_dgs, convA, c1, c2, hrv, hs, c3, heo]
  rfl
theorem RvL.eqv {σ : St} {v : AV} {l : List Int} (h : RvL σ v l) : AV.eqv v v = true := by
  rcases h with rfl | ⟨b, rfl, _⟩
  · simp [AV.eqv, eqvs_ints]
  · simp [AV.eqv]
theorem RvL.len {σ : St} {v : AV} {l : List Int} (h : RvL σ v l) : lenA v = some l.length := by
  rcases h with rfl | ⟨b, rfl, _⟩ <;> rfl
theorem l25 (l : List Nat) (hl : ∀ r ∈ l, r < 16) (hn : l.length ≤ 3) (p : List Rat) (hp : ∀ x ∈ p, Bd 60 x) (hpl : p.length ≤ 16) (b : Nat) (rv : AV) (σ0 : St) (hv : RvL σ0 rv (nintsL l)) (hb : σ0.n ≤ b) : ∀ (m i : Nat) (σ : St), i + m = p.length → Old σ0 σ → RowE σ b 3 (flat RC (exL l p i)) →
    ∃ σ', exI TT (FI.of Tryz.f25 (TT.an 25)) K25_0 [(0, rv), (5, .sl b 0 (2 ^ l.length) (2 ^ l.length)), (15, RS p), (16, .int .i64 p.length), (17, .int .i64 i)] σ = some (.sl b 0 (2 ^ l.length) (2 ^ l.length), σ') ∧ RowE σ' b 3 (flat RC (exL l p p.length)) ∧ Old σ0 σ' := by
  intro m
  induction m with
  | zero =>
    intro i σ hi ho hrow
    obtain rfl : i = p.length := by omega
    exact ⟨σ, e25 _ _ _ b _ σ, hrow, ho⟩
  | succ m ih =>
    intro i σ hi ho hrow
    have hip : i < p.length := by omega
    have hi1 : ((i + 1 : Nat) : Int) = (i : Int) + 1 := by omega
    have hA : appR i l 0 0 < 2 ^ l.length := by have := appR_lt i l 0 0 (by decide); rwa [Nat.zero_add] at this
    obtain ⟨σ2, a1, a2, a3, a4⟩ := new_box (σ := σ) (z := [.bool false, .nilS, .nilS]) (x := RC p[i]) (m := 3) rfl rfl
    have hrow2 := hrow.old a3
    have lo : cellsAt σ2 (.ptr b (appR i l 0 0 * 3)) 3 = some (RC (exT l p (appR i l 0 0) i)) := hrow2.rd (flat_get RC_len _ _ _ (exL_get l p i hA))
    have hai : atL p i = p[i] := atL_of hip
    have bt := exT_bd (l := l) hp (appR i l 0 0) i
    have hmul : i * 61 ≤ 16 * 61 := Nat.mul_le_mul_right _ (by omega)
    have c2 := fun σ : St => (r32 (bt.mono (show _ ≤ 2000 by omega)) ((hp _ (List.getElem_mem hip)).mono (show 60 ≤ 2000 by decide)) (by decide)).pure σ rfl rfl
    obtain ⟨σ3, d1, d2, d3⟩ := hrow2.st (i := appR i l 0 0 * 3) (ws := RC (exT l p (appR i l 0 0) i + p[i])) (by rw [flat_len RC_len, exL_len]; show appR i l 0 0 * 3 + 3 ≤ _; omega) (RC_one _)
    rw [flat_set RC_len _ _ _ (by rw [exL_len]; exact hA), ← hai, exL_set] at d2
    have o2 := ho.trans a3
    have o3 : Old σ0 σ3 := ⟨by rw [d3.1]; exact o2.1, fun c hc => by rw [d3.2 c (by omega)]; exact o2.2 c hc⟩
    have c1 : callI TT 53 [rv, .int .i64 i] σ2 = some (.int .i64 (appR i l 0 0), σ2) := r53 l hl (by omega) i (by omega) σ2 _ (mapO_cons ((hv.old o2).frz.trans (by rw [nintsL_len])) rfl)
    obtain ⟨σ', k1, k2, k3⟩ := ih (i + 1) σ3 (by omega) o3 d2
    rw [hi1] at k1
    refine ⟨σ', ?_, k2, k3⟩
    rw [← k1]
    exact s25 rv (2 ^ l.length) p.length b i (appR i l 0 0) (flat RC p) (RC p[i]) _ _ σ σ2 σ3 hip (RS_get hip σ) rfl a1 (wrapA_id (by omega) (by omega)) c1 hA lo (a2.rd rfl) c2 (RC_eqv _) (RC_eqv _) rfl d1 (wrapA_id (by omega) (by omega))
theorem c25 (l : List Nat) (hl : ∀ r ∈ l, r < 16) (hn : l.length ≤ 3) (p : List Rat) (hp : ∀ x ∈ p, Bd 60 x) (hpl : p.length ≤ 16) (rv : AV) (σ : St) (hv : RvL σ rv (nintsL l)) : ∃ b σ', callI TT 25 [rv, RS p] σ = some (.sl b 0 (2 ^ l.length) (2 ^ l.length), σ') ∧ RowE σ' b 3 (flat RC (exL l p p.length)) ∧ Old σ σ' ∧ σ.n ≤ b := by
  have c1 := fun σ : St => (r29 (n := 0) (by decide) (by decide)).pure σ rfl rfl
  have c2 := build_el (T := TT) (σ := σ) (st := 51) (w := RC 0) ty51 ty57 (by decide) rfl rfl rfl
  have hP : 2 ^ l.length ≤ 2 ^ 3 := Nat.pow_le_pow_right (by decide) hn
  have hP0 := Nat.two_pow_pos l.length
  obtain ⟨σ2, c3, r3, o3⟩ := c52 0 σ.n (2 ^ l.length) hP0 (by omega) _ (RowE.push (σ := σ) (cs := RC 0) (e := 3) (o := false))
  have hz : repQ 0 (2 ^ l.length) = exL l p 0 := by
    apply List.ext_getElem?
    intro j
    by_cases hj : j < 2 ^ l.length
    · rw [exL_get l p _ hj]
      simp [repQ, hj]; rfl
    · rw [List.getElem?_eq_none (by simp [repQ]; omega), List.getElem?_eq_none (by rw [exL_len]; omega)]
  rw [hz] at r3
  obtain ⟨σ', k1, k2, k3⟩ := l25 l hl hn p hp hpl (σ.n + 1) rv σ hv (Nat.le_succ _) p.length 0 σ2 (by omega) (Old.push.trans o3) r3
  refine ⟨_, σ', ?_, k2, k3, Nat.le_succ _⟩
  rcases hv with rfl | ⟨r, rfl, _⟩
  · rw [nintsL_len] at k1 ⊢
    exact (cI_0 (c := b25) fn25 rfl md25).trans ((b25e 0 (ints (nintsL l)) l.length p.length (σ.n + 1) (2 ^ l.length) (flat RC p) (RC 0) σ _ σ2 c1 c2 (eqvs_ints _) (pow_sh2 l.length (by omega)) c3 (RC_eqv _)).trans k1)
  · rw [nintsL_len] at k1 ⊢
    exact (cI_0 (c := b25) fn25 rfl md25).trans ((b25d r [] l.length p.length (σ.n + 1) (2 ^ l.length) (flat RC p) (RC 0) σ _ σ2 c1 c2 rfl (pow_sh2 l.length (by omega)) c3 (RC_eqv _)).trans k1)

set_option maxHeartbeats 4000000 in
theorem k27 (rv : AV) (n N a b : Nat) (cells e d : List AV) (σ σ0 σ1 σ2 σ3 σ4 σ5 : St) (h0 : σ.push ⟨[.bool false, .nilS, .nilS], 3, false⟩ = σ0) (c1 : callI TT 25 [rv, .lst n cells] σ0 = some (.sl a 0 N N, σ1)) (c2 : callI TT 55 [.sl a 0 N N] σ1 = some (.int .i64 N, σ1)) (c3 : ∀ σ, callI TT 54 [.int .i64 1, .int .i64 N] σ = some (.agg e, σ)) (c4 : buildSliceA TT σ1 51 1 [(0, .agg e)] = some (.sl σ1.n 0 1 1, σ2)) (c5 : callI TT 52 [.sl σ1.n 0 1 1, .int .i64 N] σ2 = some (.sl b 0 N N, σ3)) (c6 : callI TT 44 [.sl a 0 N N, .sl b 0 N N] σ3 = some (.agg d, σ4)) (hd : d.length = 3) (s1 : storeCellsA σ4 σ.n 0 d = some σ5) (l1 : cellsAt σ5 (.ptr σ.n 0) 3 = some d) :
    exI TT (FI.of Tryz.f27 (TT.an 27)) [.code (Tryz.f27.body.getD .skip)] (paramsE 0 [rv, .lst n cells]) σ = some (.agg d, σ5) := by
  rw [fi27]
  simp only [Tryz.f27, Option.getD]
  simp (maxSteps := 1000000) (disch := omega) [getCells, takeN, dropN, fieldAddrA, allOne, AV.one, n_push, putN, overN, blt_dec, buildA, sizesOf, fillA, putCells, List.take_succ_cons, List.take_zero, List.drop_succ_cons, List.drop_zero, List.nil_append, List.cons_append, List.length_cons, List.length_nil, eqvs_dgs, convA, h0, c1, c2, c3, c4, c5, c6, hd, s1, l1]
/-- How uneven what rows make of a source is. -/
def evQ (N : Nat) : List Rat := repQ (mkRat 1 N) N
def unQ (l : List Nat) (p : List Rat) : Rat := distQ (exL l p p.length) (evQ (2 ^ l.length))
theorem evQ_bd {N : Nat} (h1 : 1 ≤ N) (h8 : N ≤ 8) : ∀ x ∈ evQ N, Bd 60 x := fun x hx => by
  rw [evQ, repQ] at hx
  rw [List.eq_of_mem_replicate hx]
  exact low_bd (b := false) (n := 1) (by omega) (by decide) (Nat.lt_of_le_of_lt h8 (by decide))
theorem exL_bd {l : List Nat} {p : List Rat} (hp : ∀ x ∈ p, Bd 60 x) (hpl : p.length ≤ 16) : ∀ x ∈ exL l p p.length, Bd 1000 x := fun x hx => by
  unfold exL at hx
  obtain ⟨k, _, rfl⟩ := List.mem_map.1 hx
  have hmul : p.length * 61 ≤ 16 * 61 := Nat.mul_le_mul_right _ hpl
  exact (exT_bd hp k _).mono (by omega)
theorem c27 (l : List Nat) (hl : ∀ r ∈ l, r < 16) (hn : l.length ≤ 3) (p : List Rat) (hp : ∀ x ∈ p, Bd 60 x) (hpl : p.length ≤ 16) (rv : AV) (σ : St) (hv : RvL σ rv (nintsL l)) : ∃ σ', callI TT 27 [rv, RS p] σ = some (RT (unQ l p), σ') ∧ Old σ σ' := by
  have hP : 2 ^ l.length ≤ 2 ^ 3 := Nat.pow_le_pow_right (by decide) hn
  have hP0 := Nat.two_pow_pos l.length
  have hx0 : Bx (σ.push ⟨[.bool false, .nilS, .nilS], 3, false⟩) σ.n [.bool false, .nilS, .nilS] := Bx.push
  obtain ⟨a, σ1, c1, ra, o1, han⟩ := c25 l hl hn p hp hpl rv (σ.push ⟨[.bool false, .nilS, .nilS], 3, false⟩) (hv.old Old.push)
  have han' : σ.n + 1 ≤ a := han
  have hal := ra.lt
  have c2 : callI TT 55 [.sl a 0 (2 ^ l.length) (2 ^ l.length)] σ1 = some (.int .i64 (2 ^ l.length : Nat), σ1) := r55 (2 ^ l.length) (flat RC (exL l p p.length)) σ1 _ (mapO_cons (ra.frz (d := 4) (by rw [flat_len RC_len, exL_len]) (flat_frz (fun v => RC_frz σ1 4 v) _) (Nat.le_refl _)) rfl)
  have c3 := r54 (n := 1) (d := 2 ^ l.length) (by decide) (by decide) hP0 (by omega)
  have c4 := build_el (T := TT) (σ := σ1) (st := 51) (w := RC (mkRat 1 (2 ^ l.length))) ty51 ty57 (by decide) rfl rfl rfl
  obtain ⟨σ2, c5, r5, o5⟩ := c52 (mkRat 1 (2 ^ l.length)) σ1.n (2 ^ l.length) hP0 (by omega) _ (RowE.push (σ := σ1) (cs := RC (mkRat 1 (2 ^ l.length))) (e := 3) (o := false))
  have hel : (evQ (2 ^ l.length)).length = (exL l p p.length).length := by rw [exL_len]; simp [evQ, repQ]
  have c6 := r44 (exL l p p.length) (evQ (2 ^ l.length)) hel 1000 (exL_bd hp hpl) (fun x hx => (evQ_bd hP0 (by omega) x hx).mono (by decide)) (by rw [exL_len]; have : (2 ^ l.length + 1) * (2 * 1000 + 3) ≤ 9 * 2003 := Nat.mul_le_mul (by omega) (by decide); omega)
  have e1 : RS (exL l p p.length) = .lst (2 ^ l.length) (flat RC (exL l p p.length)) := by rw [RS, exL_len]
  have e2 : RS (evQ (2 ^ l.length)) = .lst (2 ^ l.length) (flat RC (repQ (mkRat 1 (2 ^ l.length)) (2 ^ l.length))) := by rw [RS, hel, exL_len]; rfl
  rw [e1, e2] at c6
  have o12 : Old σ1 σ2 := Old.push.trans o5
  obtain ⟨σ3, d1, d2, d3⟩ := c6.rowE22 (ra.old o12) r5 (by rw [flat_len RC_len, exL_len]) (by rw [flat_len RC_len]; simp [repQ]) (flat_frz (fun v => RC_frz σ2 4 v) _) (flat_frz (fun v => RC_frz σ2 4 v) _) (flat_rows (fun _ => rfl) _) (flat_rows (fun _ => rfl) _)
  have o02 : Old (σ.push ⟨[.bool false, .nilS, .nilS], 3, false⟩) σ2 := o1.trans o12
  have hn1 : (σ.push ⟨[.bool false, .nilS, .nilS], 3, false⟩).n = σ.n + 1 := rfl
  have h1n := o1.1
  have hb3 : Bx σ3 σ.n [.bool false, .nilS, .nilS] := by
    obtain ⟨⟨mm, hg⟩, hlt⟩ := hx0.old o02
    exact ⟨⟨mm, by rw [d3 σ.n (by omega) (by show σ.n ≠ σ1.n + 1; omega)]; exact hg⟩, by rw [d2]; exact hlt⟩
  obtain ⟨σ4, a1, a2, a3⟩ := hb3.st (ws := RC (unQ l p)) rfl (RC_one _)
  refine ⟨σ4, (cI_0 fn27 rfl md27).trans (k27 rv p.length (2 ^ l.length) a (σ1.n + 1) (flat RC p) _ _ σ _ σ1 _ σ2 σ3 σ4 rfl c1 c2 (fun σ => c3.pure σ rfl rfl) c4 c5 d1 rfl a1 (a2.rd rfl)), ?_, fun c hc => ?_⟩
  · have := o02.1
    rw [a3.1, d2]; omega
  · rw [a3.2 c (by omega), d3 c (by omega) (by show c ≠ σ1.n + 1; omega), o02.2 c (by omega)]
    exact get_push_lt hc

set_option maxHeartbeats 4000000 in
theorem k23 (m n : Nat) (rows cells : List AV) (nb h P : Int) (c1 : ∀ σ, callI TT 39 [.lst n cells] σ = some (.tup [.int .i64 nb, .bool true], σ)) (c2 : ∀ σ, callI TT 50 [.lst m rows] σ = some (.int .i64 m, σ)) (c3 : ∀ σ, callI TT 49 [.int .i64 m, .int .i64 1, .int .i64 3] σ = some (.bool true, σ)) (hnb : 0 ≤ nb) (h1 : wrapA .i64 (shlA 1 (min nb.toNat IntKind.i64.bits)) = P) (h2 : wrapA .i64 (P - 1) = h) (c4 : ∀ σ, callI TT 51 [.lst m rows, .int .i64 0, .int .i64 h] σ = some (.bool true, σ)) :
    ∃ σ', exI TT (FI.of Tryz.f23 (TT.an 23)) [.code (Tryz.f23.body.getD .skip)] (paramsE 0 [.lst m rows, .lst n cells]) ⟨[], 0⟩ = some (.bool true, σ') := by
  refine ex1 ?_
  rw [fi23]
  simp only [Tryz.f23, Option.getD]
  simp (maxSteps := 1000000) (disch := omega) [cellsAt, getCells, takeN, dropN, fieldAddrA, allOne, AV.one, n_push, storeCellsA, putN, overN, St.push, St.get, St.set, hget, hset, blt_dec, buildA, sizesOf, fillA, putCells, List.take_succ_cons, List.take_zero, List.drop_succ_cons, List.drop_zero, List.nil_append, List.cons_append, List.length_cons, List.length_nil, eqvs_dgs, convA, c1, c2, c3, hnb, h1, h2, c4]
/-- The bits of a source of so many chances. -/
theorem r23 (l : List Nat) (h1 : 1 ≤ l.length) (h3 : l.length ≤ 3) (lf : List (Int × Int)) (hs : isSrc lf = true) (nb : Nat) (hnb : (bl lf.length : Int) - 1 = nb) (hnb4 : nb ≤ 4) (hl : ∀ r ∈ l, r < 2 ^ nb) (hlf : lf.length ≤ 16) : FnV TT 23 [.lst l.length (ints (nintsL l)), FS lf] (.bool true) := by
  have c1 := fun σ => r39 lf (by omega) σ [FS lf] rfl
  rw [hs, hnb] at c1
  have c3 := fun σ => v49 l.length 1 3 σ [.int .i64 l.length, .int .i64 1, .int .i64 3] rfl
  have e3 : (decide ((1 : Int) ≤ (l.length : Int)) && decide ((l.length : Int) ≤ 3)) = true := by rw [decide_eq_true (by omega), decide_eq_true (by omega)]; rfl
  rw [e3] at c3
  have hp0 := Nat.two_pow_pos nb
  have hp : 2 ^ nb ≤ 2 ^ 4 := Nat.pow_le_pow_right (by decide) hnb4
  have c4 := fun σ => v51 (nintsL l) l.length (by simp [nintsL]) (by omega) 0 ((2 ^ nb - 1 : Nat) : Int) σ [.lst l.length (ints (nintsL l)), .int .i64 0, .int .i64 ((2 ^ nb - 1 : Nat) : Int)] rfl
  have e4 : allR (nintsL l) 0 ((2 ^ nb - 1 : Nat) : Int) = true := by
    unfold allR
    rw [List.all_eq_true]
    intro x hx
    obtain ⟨y, hy, rfl⟩ := List.mem_map.1 hx
    have := hl y hy
    exact inR_iff.2 (by omega)
  rw [e4] at c4
  exact FnV.mk fn23 rfl md23 (k23 _ _ _ _ nb ((2 ^ nb - 1 : Nat) : Int) ((2 ^ nb : Nat) : Int) c1 (fun σ => v50 (nintsL l) l.length σ _ rfl) c3 (by omega) (by rw [Int.toNat_natCast]; exact pow_sh2 nb (by omega)) (by rw [show ((2 ^ nb : Nat) : Int) - 1 = ((2 ^ nb - 1 : Nat) : Int) by omega]; exact wrapA_id (by omega) (by omega)) c4) (fun _ => rfl) rfl

set_option maxHeartbeats 4000000 in
theorem k9 (m n N : Nat) (rows cells ps d : List AV) (a b : Int) (c : Bool) (σ0 σ1 σ2 : St) (h0 : (⟨[], 0⟩ : St).push ⟨[.int .i64 0, .int .i64 0], 2, false⟩ = σ0) (c1 : ∀ σ, callI TT 23 [.lst m rows, .lst n cells] σ = some (.bool true, σ)) (c2 : ∀ σ, callI TT 26 [.lst n cells] σ = some (.lst N ps, σ)) (c3 : callI TT 27 [.lst m rows, .lst N ps] σ0 = some (.agg d, σ1)) (c4 : ∀ σ, callI TT 28 [.agg d] σ = some (.tup [.agg [.int .i64 a, .int .i64 b], .bool c], σ)) (s1 : storeCellsA σ1 0 0 [.int .i64 a, .int .i64 b] = some σ2) (l1 : cellsAt σ2 (.ptr 0 0) 2 = some [.int .i64 a, .int .i64 b]) :
    exI TT (FI.of Tryz.f9 (TT.an 9)) [.code (Tryz.f9.body.getD .skip)] (paramsE 0 [.lst m rows, .lst n cells]) ⟨[], 0⟩ = some (.tup [.agg [.int .i64 a, .int .i64 b], .bool c], σ2) := by
  rw [fi9]
  simp only [Tryz.f9, Option.getD]
  simp (maxSteps := 1000000) (disch := omega) [getCells, takeN, dropN, fieldAddrA, allOne, AV.one, n_push, putN, overN, blt_dec, buildA, sizesOf, fillA, putCells, List.take_succ_cons, List.take_zero, List.drop_succ_cons, List.drop_zero, List.nil_append, List.cons_append, List.length_cons, List.length_nil, eqvs_dgs, convA, h0, c1, c2, c3, c4, s1, l1]
theorem unQ_bd {l : List Nat} (hn : l.length ≤ 3) {p : List Rat} (hp : ∀ x ∈ p, Bd 60 x) (hpl : p.length ≤ 16) : Bd 100000 (unQ l p) := by
  have hP : 2 ^ l.length ≤ 2 ^ 3 := Nat.pow_le_pow_right (by decide) hn
  have hP0 := Nat.two_pow_pos l.length
  have hel : (evQ (2 ^ l.length)).length = (exL l p p.length).length := by rw [exL_len]; simp [evQ, repQ]
  have hmul : (2 ^ l.length) * (2 * 1000 + 2) ≤ 8 * 2002 := Nat.mul_le_mul (by omega) (by decide)
  exact (distQ_bd hel (exL_bd hp hpl) (fun x hx => (evQ_bd hP0 (by omega) x hx).mono (by decide))).mono (by rw [exL_len]; omega)
theorem r9 (l : List Nat) (h1 : 1 ≤ l.length) (h3 : l.length ≤ 3) (p : List Rat) (hf : ∀ x ∈ p, fits x = true) (hpl : p.length ≤ 16) (hs : isSrc (frL p) = true) (nb : Nat) (hnb : (bl p.length : Int) - 1 = nb) (hnb4 : nb ≤ 4) (hl : ∀ r ∈ l, r < 2 ^ nb) (hfu : fits (unQ l p) = true) : FnV TT 9 [.lst l.length (ints (nintsL l)), FS (frL p)] (.tup [.agg (QC (unQ l p)), .bool true]) := by
  have hp : 2 ^ nb ≤ 2 ^ 4 := Nat.pow_le_pow_right (by decide) hnb4
  have hl16 : ∀ r ∈ l, r < 16 := fun r hr => by have := hl r hr; omega
  have c1 := r23 l h1 h3 (frL p) hs nb (by rw [frL_len]; exact hnb) hnb4 hl (by rw [frL_len]; exact hpl)
  have c2 := r26 (frL p) (frL_vfl hf) (by rw [frL_len]; omega)
  rw [frL_rq] at c2
  obtain ⟨σ1, c3, o3⟩ := c27 l hl16 h3 p (fits_bds hf) hpl (.lst l.length (ints (nintsL l))) ((⟨[], 0⟩ : St).push ⟨[.int .i64 0, .int .i64 0], 2, false⟩) (.inl (by rw [nintsL_len]))
  obtain ⟨σ2, a1, a2, _⟩ := ((Bx.push (σ := ⟨[], 0⟩) (vs := [.int .i64 0, .int .i64 0]) (m := 2)).old o3).st (ws := QC (unQ l p)) rfl rfl
  have c4 := r28 (unQ_bd h3 (fits_bds hf) hpl) (by decide)
  rw [frA_yes hfu] at c4
  exact FnV.mk fn9 rfl md9 ⟨σ2, k9 _ _ _ _ _ _ _ _ _ _ _ σ1 σ2 rfl (fun σ => c1 σ _ rfl) (fun σ => c2.pure σ rfl rfl) c3 (fun σ => c4 σ _ rfl) a1 (a2.rd rfl)⟩ (fun _ => rfl) rfl

set_option maxHeartbeats 4000000 in
theorem k5 (n m d r : Nat) (N : Int) (c : List AV) (σ1 σ2 σ3 : St) (c1 : callI TT 20 [.lst n c] ⟨[], 0⟩ = some (.ptr 0 0, σ1)) (c2 : callI TT 21 [.ptr 0 0, .int .i64 3] σ1 = some (.int .i64 r, σ2)) (hu : wrapA .u64 (r : Int) = r) (hN : wrapA .i64 (shlA 2 (min r IntKind.i64.bits)) = N) (c3 : callI TT 22 [.ptr 0 0, .int .i64 N] σ2 = some (.sl d 0 m m, σ3)) :
    exI TT (FI.of Tryz.f5 (TT.an 5)) [.code (Tryz.f5.body.getD .skip)] (paramsE 0 [.lst n c]) ⟨[], 0⟩ = some (.sl d 0 m m, σ3) := by
  rw [fi5]
  simp only [Tryz.f5, Option.getD]
  simp (maxSteps := 1000000) (disch := omega) [cellsAt, getCells, takeN, dropN, fieldAddrA, allOne, AV.one, n_push, storeCellsA, putN, overN, St.push, St.get, St.set, hget, hset, blt_dec, buildA, sizesOf, fillA, putCells, List.take_succ_cons, List.take_zero, List.drop_succ_cons, List.drop_zero, List.nil_append, List.cons_append, List.length_cons, List.length_nil, eqvs_dgs, convA, c1, c2, hu, hN, c3]
theorem wrap_un {n : Nat} (h : n < 4294967296) : wrapA .u64 (n : Int) = n := by
  rw [wrapA_eq]; simp [IntKind.wrap, IntKind.bits, IntKind.signed]; omega
theorem r5 (l : List Nat) (hl : ∀ x ∈ l, x < 256) (hll : l.length ≤ 2000000) : ∃ (j : Nat) (ws : List Nat), 1 ≤ j ∧ j ≤ 3 ∧ Wts (2 ^ j) ws ∧ FnF TT 5 [.lst l.length (byts l)] (FS (chsL ws)) := by
  obtain ⟨σ1, c1, s1, n1, o1⟩ := c20 l ⟨[], 0⟩
  obtain ⟨r, k', m', σ2, c2, hr, s2, hk, n2, o2⟩ := c21 l hl hll 0 0 (by decide) 3 (by decide) σ1 0 s1
  have hr3 : r < 3 := by omega
  have hpw : 2 ^ (r + 1) ≤ 2 ^ 3 := Nat.pow_le_pow_right (by decide) (by omega)
  obtain ⟨ws, d, k2, m2, σ3, c3, e1, e2, e3, e4, e5, e6, e7, e8, e9⟩ := c22 l hl hll k' m' (2 ^ (r + 1)) (by omega) (Nat.two_pow_pos _) (by omega) σ2 0 s2
  have hN : wrapA .i64 (shlA 2 (min r IntKind.i64.bits)) = ((2 ^ (r + 1) : Nat) : Int) := by
    have : r = 0 ∨ r = 1 ∨ r = 2 := by omega
    rcases this with rfl | rfl | rfl <;> decide
  refine ⟨r + 1, ws, by omega, by omega, ⟨e1, e2, e3⟩, FnF.mk fn5 rfl md5 ⟨σ3, _, k5 _ _ _ r _ _ σ1 σ2 σ3 c1 c2 (wrap_un (by omega)) hN c3, ?_⟩⟩
  have := e4.frz (d := 4) (n := 2 ^ (r + 1)) (c := 2 ^ (r + 1)) (by rw [flat_len FC_len, chsL_len, e1]) (FC_frz' σ3 4 _) (Nat.le_refl _)
  rw [show FS (chsL ws) = .lst (2 ^ (r + 1)) (flat FC (chsL ws)) by rw [FS, chsL_len, e1]]
  exact this

noncomputable def b7 : Code := Tryz.f7.body.getD .skip
noncomputable def B7_0 : Code := (bodyC (bodyC (sndC (fstC (sndC (sndC (sndC b7)))))))
noncomputable def K7_0 : List It := .lp B7_0 :: .blk 0 :: .code (sndC (sndC (sndC (sndC b7)))) :: []
theorem xl7_0 {fi : FI} {env : Env} {σ : St} : exI TT fi K7_0 env σ = exI TT fi (.code B7_0 :: K7_0) env σ := by unfold K7_0; exact xI_lp
noncomputable def R7_0_0 : List It := .code (sndC (sndC (sndC (sndC b7)))) :: []
theorem eK7_0_0 : exitA 0 K7_0 = some R7_0_0 := rfl
set_option maxHeartbeats 4000000 in
theorem s7 (n P : Int) (nb b m b2 m2 x i : Nat) (σ σ1 σ2 σ3 : St) (hi : (i : Int) < n) (hu : wrapA .u64 (nb : Int) = nb) (hP : wrapA .i64 (shlA 1 (min nb IntKind.i64.bits)) = P) (c1 : callI TT 21 [.ptr 0 0, .int .i64 P] σ = some (.int .i64 x, σ1)) (c2 : buildSliceA TT σ1 28 1 [(0, .int .i64 x)] = some (.sl σ1.n 0 1 1, σ2)) (c3 : appendA TT σ2 28 28 (.sl b 0 m m) (.sl σ1.n 0 1 1) = some (.sl b2 0 m2 m2, σ3)) (hw : wrapA .i64 ((i : Int) + 1) = (i : Int) + 1) :
    exI TT (FI.of Tryz.f7 (TT.an 7)) K7_0 [(1, .int .i64 n), (2, .int .i64 nb), (7, .ptr 0 0), (8, .sl b 0 m m), (9, .int .i64 i)] σ = exI TT (FI.of Tryz.f7 (TT.an 7)) K7_0 [(1, .int .i64 n), (2, .int .i64 nb), (7, .ptr 0 0), (8, .sl b2 0 m2 m2), (9, .int .i64 ((i : Int) + 1))] σ3 := by
  rw [fi7]
  conv => lhs; rw [xl7_0]
  simp only [B7_0, b7, Tryz.f7, Option.getD, fstC, sndC, bodyC, thnC, elsC]
  simp (maxSteps := 1000000) (disch := omega) [eK7_0_0, getCells, takeN, dropN, fieldAddrA, allOne, AV.one, n_push, putN, overN, blt_dec, buildA, sizesOf, fillA, putCells, List.take_succ_cons, List.take_zero, List.drop_succ_cons, List.drop_zero, List.nil_append, List.cons_append, List.length_cons, List.length_nil, eqvs_dgs, convA, hi, hu, hP, c1, c2, c3, hw]
set_option maxHeartbeats 4000000 in
theorem e7 (n : Int) (nb b m i : Nat) (σ : St) (hi : n = i) :
    exI TT (FI.of Tryz.f7 (TT.an 7)) K7_0 [(1, .int .i64 n), (2, .int .i64 nb), (7, .ptr 0 0), (8, .sl b 0 m m), (9, .int .i64 i)] σ = some (.sl b 0 m m, σ) := by
  rw [fi7]
  conv => lhs; rw [xl7_0]
  simp only [B7_0, b7, Tryz.f7, Option.getD, fstC, sndC, bodyC, thnC, elsC]
  simp (maxSteps := 1000000) (disch := omega) [eK7_0_0, getCells, takeN, dropN, fieldAddrA, allOne, AV.one, n_push, putN, overN, blt_dec, buildA, sizesOf, fillA, putCells, List.take_succ_cons, List.take_zero, List.drop_succ_cons, List.drop_zero, List.nil_append, List.cons_append, List.length_cons, List.length_nil, eqvs_dgs, convA, hi]
  simp only [R7_0_0, b7, Tryz.f7, Option.getD, fstC, sndC, bodyC, thnC, elsC]
  simp (maxSteps := 1000000) (disch := omega) [eK7_0_0, getCells, takeN, dropN, fieldAddrA, allOne, AV.one, n_push, putN, overN, blt_dec, buildA, sizesOf, fillA, putCells, List.take_succ_cons, List.take_zero, List.drop_succ_cons, List.drop_zero, List.nil_append, List.cons_append, List.length_cons, List.length_nil, eqvs_dgs, convA, hi]
set_option maxHeartbeats 4000000 in
theorem b7e (n : Nat) (N : Int) (nb : Nat) (c : List AV) (σ0 σ1 : St) (c1 : callI TT 20 [.lst n c] ⟨[], 0⟩ = some (.ptr 0 0, σ0)) (c2 : buildSliceA TT σ0 28 0 [] = some (.sl σ0.n 0 0 0, σ1)) :
    exI TT (FI.of Tryz.f7 (TT.an 7)) [.code b7] (paramsE 0 [.lst n c, .int .i64 N, .int .i64 nb]) ⟨[], 0⟩ = exI TT (FI.of Tryz.f7 (TT.an 7)) K7_0 [(1, .int .i64 N), (2, .int .i64 nb), (7, .ptr 0 0), (8, .sl σ0.n 0 0 0), (9, .int .i64 0)] σ1 := by
  rw [fi7]
  simp only [b7, Tryz.f7, Option.getD, fstC, sndC, bodyC, thnC, elsC]
  simp (maxSteps := 1000000) (disch := omega) [eK7_0_0, getCells, takeN, dropN, fieldAddrA, allOne, AV.one, n_push, putN, overN, blt_dec, buildA, sizesOf, fillA, putCells, List.take_succ_cons, List.take_zero, List.drop_succ_cons, List.drop_zero, List.nil_append, List.cons_append, List.length_cons, List.length_nil, eqvs_dgs, convA, c1, c2]
  rfl
theorem l7 (l : List Nat) (hl : ∀ x ∈ l, x < 256) (hll : l.length ≤ 2000000) (n nb : Nat) (hn : n ≤ 3) (hnb : nb ≤ 4) : ∀ (mm i k m' : Nat) (ws : List Nat) (b : Nat) (σ : St), i + mm = n → ws.length = i → (∀ r ∈ ws, r < 2 ^ nb) → k + 2 * mm ≤ 600 → SRC σ 0 l k m' → b ≠ 0 → Row σ b (wints ws) →
    ∃ ws' b' σ', exI TT (FI.of Tryz.f7 (TT.an 7)) K7_0 [(1, .int .i64 (n : Nat)), (2, .int .i64 nb), (7, .ptr 0 0), (8, .sl b 0 i i), (9, .int .i64 i)] σ = some (.sl b' 0 n n, σ') ∧ ws'.length = n ∧ (∀ r ∈ ws', r < 2 ^ nb) ∧ Row σ' b' (wints ws') := by
  intro mm
  induction mm with
  | zero =>
    intro i k m' ws b σ hi hw hr hk hs hb0 hb
    obtain rfl : i = n := by omega
    exact ⟨ws, b, σ, e7 i nb b i i σ rfl, hw, hr, hb⟩
  | succ mm ih =>
    intro i k m' ws b σ hi hw hr hk hs hb0 hb
    have hi1 : ((i + 1 : Nat) : Int) = (i : Int) + 1 := by omega
    have hwr : wrapA .i64 ((i : Int) + 1) = (i : Int) + 1 := wrapA_id (by omega) (by omega)
    have hp : 2 ^ nb ≤ 2 ^ 4 := Nat.pow_le_pow_right (by decide) hnb
    have hp0 := Nat.two_pow_pos nb
    obtain ⟨x, k1, m1, σ1, c1, hx, s1, hk1, n1, o1⟩ := c21 l hl hll k m' (by omega) (2 ^ nb) (by omega) σ 0 hs
    have hb1 : Row σ1 b (wints ws) := hb.keep (Nat.le_of_eq n1.symm) (o1 b hb0)
    obtain ⟨σ3, a1, a2, a3, a4⟩ := append_row (T := TT) (st := 28) (x := (x : Int)) ty28 ty2 hb1 (n := i) (by simp [wints, hw]) (by omega)
    have hs3 : SRC σ3 0 l k1 m1 := ⟨by have := s1.1; omega, by rw [a4 0 (fun h => hb0 h.symm) s1.1]; exact s1.2.1, s1.2.2⟩
    have hsn := s1.1
    have hcat : wints ws ++ [(x : Int)] = wints (ws ++ [x]) := by simp [wints]
    obtain ⟨ws', b', σ', d1, d2, d3, d4⟩ := ih (i + 1) k1 m1 (ws ++ [x]) (σ1.n + 1) σ3 (by omega) (by simp [hw]) (fun r h => by
      rcases List.mem_append.1 h with h | h
      · exact hr r h
      · rw [List.mem_singleton.1 h]; omega) (by omega) hs3 (by omega) (hcat ▸ a2)
    rw [hi1] at d1
    refine ⟨ws', b', σ', ?_, d2, d3, d4⟩
    rw [← d1]
    exact s7 n ((2 ^ nb : Nat) : Int) nb b i (σ1.n + 1) (i + 1) x i σ σ1 _ σ3 (by omega) (wrap_un (by omega)) (pow_sh2 nb (by omega)) c1 (build_one ty28 ty2) a1 hwr
theorem r7 (l : List Nat) (hl : ∀ x ∈ l, x < 256) (hll : l.length ≤ 2000000) (n nb : Nat) (hn : n ≤ 3) (hnb : nb ≤ 4) : ∃ ws : List Nat, ws.length = n ∧ (∀ r ∈ ws, r < 2 ^ nb) ∧ FnF TT 7 [.lst l.length (byts l), .int .i64 n, .int .i64 nb] (.lst ws.length (ints (nintsL ws))) := by
  obtain ⟨σ1, c1, s1, n1, o1⟩ := c20 l ⟨[], 0⟩
  have hn1 : σ1.n = 1 := n1
  have hs : SRC (σ1.push ⟨ints [], 1, false⟩) 0 l 0 0 := ⟨by show 0 < σ1.n + 1; omega, by rw [get_push_lt (by omega)]; exact s1.2.1, s1.2.2⟩
  have hb := build_nil (T := TT) (σ := σ1) (st := 28) ty28 ty2
  obtain ⟨ws, b, σ', d1, d2, d3, d4⟩ := l7 l hl hll n nb hn hnb n 0 0 0 [] σ1.n (σ1.push ⟨ints [], 1, false⟩) (by omega) rfl (by intro r h; cases h) (by omega) hs (by omega) Row.push
  refine ⟨ws, d2, d3, FnF.mk fn7 rfl md7 ⟨σ', _, (b7e _ _ _ _ _ _ c1 hb).trans d1, ?_⟩⟩
  rw [d2]
  exact d4.frz (d := 4) (by simp [wints, d2]) (Nat.le_refl _)

noncomputable def b30 : Code := Tryz.f30.body.getD .skip
noncomputable def B30_0 : Code := (bodyC (bodyC (sndC (fstC (sndC (sndC (sndC b30)))))))
noncomputable def K30_0 : List It := .lp B30_0 :: .blk 0 :: .code (sndC (sndC (sndC (sndC b30)))) :: []
theorem xl30_0 {fi : FI} {env : Env} {σ : St} : exI TT fi K30_0 env σ = exI TT fi (.code B30_0 :: K30_0) env σ := by unfold K30_0; exact xI_lp
noncomputable def R30_0_0 : List It := .code (sndC (sndC (sndC (sndC b30)))) :: []
theorem eK30_0_0 : exitA 0 K30_0 = some R30_0_0 := rfl
noncomputable def B30_1 : Code := (bodyC (bodyC (sndC (fstC (sndC (sndC (bodyC (fstC (sndC (sndC (bodyC (bodyC (sndC (fstC (sndC (sndC (sndC b30)))))))))))))))))
noncomputable def K30_1 : List It := .lp B30_1 :: .blk 2 :: .code (sndC (sndC (sndC (bodyC (fstC (sndC (sndC (bodyC (bodyC (sndC (fstC (sndC (sndC (sndC b30)))))))))))))) :: .blk 1 :: .code (sndC (sndC (sndC (bodyC (bodyC (sndC (fstC (sndC (sndC (sndC b30)))))))))) :: K30_0
theorem xl30_1 {fi : FI} {env : Env} {σ : St} : exI TT fi K30_1 env σ = exI TT fi (.code B30_1 :: K30_1) env σ := by unfold K30_1; exact xI_lp
noncomputable def R30_1_2 : List It := .code (sndC (sndC (sndC (bodyC (fstC (sndC (sndC (bodyC (bodyC (sndC (fstC (sndC (sndC (sndC b30)))))))))))))) :: .blk 1 :: .code (sndC (sndC (sndC (bodyC (bodyC (sndC (fstC (sndC (sndC (sndC b30)))))))))) :: K30_0
theorem eK30_1_2 : exitA 2 K30_1 = some R30_1_2 := rfl
noncomputable def R30_1_1 : List It := .code (sndC (sndC (sndC (bodyC (bodyC (sndC (fstC (sndC (sndC (sndC b30)))))))))) :: K30_0
theorem eK30_1_1 : exitA 1 K30_1 = some R30_1_1 := rfl
theorem eK30_1_0 : exitA 0 K30_1 = some R30_0_0 := rfl
set_option maxHeartbeats 4000000 in
theorem a30 (n P i : Int) (nb z gg : Nat) (cap : List AV) (σ σ1 : St) (hz : (z : Int) < P) (c1 : buildSliceA TT σ 28 0 [] = some (.sl σ.n 0 0 0, σ1)) (hn : wrapA .i64 (n - 1) = i) :
    exI TT (FI.of Tryz.f30 (TT.an 30)) K30_0 [(0, .int .i64 n), (2, .fn gg [] cap), (7, .int .i64 nb), (33, .int .i64 P), (34, .int .i64 z)] σ = exI TT (FI.of Tryz.f30 (TT.an 30)) K30_1 [(0, .int .i64 n), (2, .fn gg [] cap), (7, .int .i64 nb), (9, .int .i64 z), (10, .sl σ.n 0 0 0), (11, .int .i64 i), (33, .int .i64 P), (34, .int .i64 z)] σ1 := by
  rw [fi30]
  conv => lhs; rw [xl30_0]
  simp only [B30_0, b30, Tryz.f30, Option.getD, fstC, sndC, bodyC, thnC, elsC]
  simp (maxSteps := 1000000) (disch := omega) [eK30_0_0, eK30_1_2, eK30_1_1, eK30_1_0, getCells, takeN, dropN, fieldAddrA, allOne, AV.one, n_push, putN, overN, blt_dec, buildA, sizesOf, fillA, putCells, List.take_succ_cons, List.take_zero, List.drop_succ_cons, List.drop_zero, List.nil_append, List.cons_append, List.length_cons, List.length_nil, eqvs_dgs, convA, hz, c1, hn]
  rfl
set_option maxHeartbeats 4000000 in
theorem s30 (n P i i2 P1 : Int) (nb z gg b m b2 m2 s x M y : Nat) (cap : List AV) (σ σ1 σ2 : St) (hi : 0 ≤ i) (h1 : wrapA .i64 (i * (nb : Int)) = (s : Int)) (h2 : shrA (z : Int) (min s IntKind.i64.bits) = (x : Int)) (h3 : wrapA .i64 (shlA 1 (min nb IntKind.i64.bits)) = P1) (h4 : wrapA .i64 (P1 - 1) = (M : Int)) (h5 : bitsA .and .i64 (x : Int) (M : Int) = some (.int .i64 (y : Int))) (c1 : buildSliceA TT σ 28 1 [(0, .int .i64 y)] = some (.sl σ.n 0 1 1, σ1)) (c2 : appendA TT σ1 28 28 (.sl b 0 m m) (.sl σ.n 0 1 1) = some (.sl b2 0 m2 m2, σ2)) (h6 : wrapA .i64 (i - 1) = i2) :
    exI TT (FI.of Tryz.f30 (TT.an 30)) K30_1 [(0, .int .i64 n), (2, .fn gg [] cap), (7, .int .i64 nb), (9, .int .i64 z), (10, .sl b 0 m m), (11, .int .i64 i), (33, .int .i64 P), (34, .int .i64 z)] σ = exI TT (FI.of Tryz.f30 (TT.an 30)) K30_1 [(0, .int .i64 n), (2, .fn gg [] cap), (7, .int .i64 nb), (9, .int .i64 z), (10, .sl b2 0 m2 m2), (11, .int .i64 i2), (33, .int .i64 P), (34, .int .i64 z)] σ2 := by
  rw [fi30]
  conv => lhs; rw [xl30_1]
  simp only [B30_1, b30, Tryz.f30, Option.getD, fstC, sndC, bodyC, thnC, elsC]
  simp (maxSteps := 1000000) (disch := omega) [eK30_0_0, eK30_1_2, eK30_1_1, eK30_1_0, getCells, takeN, dropN, fieldAddrA, allOne, AV.one, n_push, putN, overN, blt_dec, buildA, sizesOf, fillA, putCells, List.take_succ_cons, List.take_zero, List.drop_succ_cons, List.drop_zero, List.nil_append, List.cons_append, List.length_cons, List.length_nil, eqvs_dgs, convA, hi, h1, h2, h3, h4, h5, c1, c2, h6]
set_option maxHeartbeats 4000000 in
theorem x30 (n P : Int) (nb z gg b m : Nat) (cap : List AV) (σ σ1 : St) (c1 : callI TT gg (.sl b 0 m m :: cap) σ = some (.tup [], σ1)) (hz : wrapA .i64 ((z : Int) + 1) = (z : Int) + 1) :
    exI TT (FI.of Tryz.f30 (TT.an 30)) K30_1 [(0, .int .i64 n), (2, .fn gg [] cap), (7, .int .i64 nb), (9, .int .i64 z), (10, .sl b 0 m m), (11, .int .i64 (-1)), (33, .int .i64 P), (34, .int .i64 z)] σ = exI TT (FI.of Tryz.f30 (TT.an 30)) K30_0 [(0, .int .i64 n), (2, .fn gg [] cap), (7, .int .i64 nb), (33, .int .i64 P), (34, .int .i64 ((z : Int) + 1))] σ1 := by
  rw [fi30]
  conv => lhs; rw [xl30_1]
  simp only [B30_1, b30, Tryz.f30, Option.getD, fstC, sndC, bodyC, thnC, elsC]
  simp (maxSteps := 1000000) (disch := omega) [eK30_0_0, eK30_1_2, eK30_1_1, eK30_1_0, getCells, takeN, dropN, fieldAddrA, allOne, AV.one, n_push, putN, overN, blt_dec, buildA, sizesOf, fillA, putCells, List.take_succ_cons, List.take_zero, List.drop_succ_cons, List.drop_zero, List.nil_append, List.cons_append, List.length_cons, List.length_nil, eqvs_dgs, convA, c1, hz]
  simp only [R30_1_2, b30, Tryz.f30, Option.getD, fstC, sndC, bodyC, thnC, elsC]
  simp (maxSteps := 1000000) (disch := omega) [eK30_0_0, eK30_1_2, eK30_1_1, eK30_1_0, getCells, takeN, dropN, fieldAddrA, allOne, AV.one, n_push, putN, overN, blt_dec, buildA, sizesOf, fillA, putCells, List.take_succ_cons, List.take_zero, List.drop_succ_cons, List.drop_zero, List.nil_append, List.cons_append, List.length_cons, List.length_nil, eqvs_dgs, convA, c1, hz]
set_option maxHeartbeats 4000000 in
theorem e30 (n : Int) (nb z gg : Nat) (cap : List AV) (σ : St)  :
    exI TT (FI.of Tryz.f30 (TT.an 30)) K30_0 [(0, .int .i64 n), (2, .fn gg [] cap), (7, .int .i64 nb), (33, .int .i64 z), (34, .int .i64 z)] σ = some (.bool true, σ) := by
  rw [fi30]
  conv => lhs; rw [xl30_0]
  simp only [B30_0, b30, Tryz.f30, Option.getD, fstC, sndC, bodyC, thnC, elsC]
  simp (maxSteps := 1000000) (disch := omega) [eK30_0_0, eK30_1_2, eK30_1_1, eK30_1_0, getCells, takeN, dropN, fieldAddrA, allOne, AV.one, n_push, putN, overN, blt_dec, buildA, sizesOf, fillA, putCells, List.take_succ_cons, List.take_zero, List.drop_succ_cons, List.drop_zero, List.nil_append, List.cons_append, List.length_cons, List.length_nil, eqvs_dgs, convA]
  simp only [R30_0_0, b30, Tryz.f30, Option.getD, fstC, sndC, bodyC, thnC, elsC]
  simp (maxSteps := 1000000) (disch := omega) [eK30_0_0, eK30_1_2, eK30_1_1, eK30_1_0, getCells, takeN, dropN, fieldAddrA, allOne, AV.one, n_push, putN, overN, blt_dec, buildA, sizesOf, fillA, putCells, List.take_succ_cons, List.take_zero, List.drop_succ_cons, List.drop_zero, List.nil_append, List.cons_append, List.length_cons, List.length_nil, eqvs_dgs, convA]
set_option maxHeartbeats 4000000 in
theorem b30e (k : Nat) (n P : Int) (nb S gg : Nat) (cells cap : List AV) (σ : St) (c1 : ∀ σ, callI TT 39 [.lst k cells] σ = some (.tup [.int .i64 nb, .bool true], σ)) (c2 : ∀ σ, callI TT 49 [.int .i64 n, .int .i64 1, .int .i64 3] σ = some (.bool true, σ)) (h1 : wrapA .i64 (n * (nb : Int)) = (S : Int)) (h8 : ¬ (8 : Int) < (S : Int)) (h2 : wrapA .i64 (shlA 1 (min S IntKind.i64.bits)) = P) :
    exI TT (FI.of Tryz.f30 (TT.an 30)) [.code b30] (paramsE 0 [.int .i64 n, .lst k cells, .fn gg [] cap]) σ = exI TT (FI.of Tryz.f30 (TT.an 30)) K30_0 [(0, .int .i64 n), (2, .fn gg [] cap), (7, .int .i64 nb), (33, .int .i64 P), (34, .int .i64 0)] σ := by
  rw [fi30]
  simp only [b30, Tryz.f30, Option.getD, fstC, sndC, bodyC, thnC, elsC]
  simp (maxSteps := 1000000) (disch := omega) [eK30_0_0, eK30_1_2, eK30_1_1, eK30_1_0, getCells, takeN, dropN, fieldAddrA, allOne, AV.one, n_push, putN, overN, blt_dec, buildA, sizesOf, fillA, putCells, List.take_succ_cons, List.take_zero, List.drop_succ_cons, List.drop_zero, List.nil_append, List.cons_append, List.length_cons, List.length_nil, eqvs_dgs, convA, c1, c2, h1, h8, h2]
  rfl
/-- A row of a list of rows, by its number. -/
def rdig (nb z i : Nat) : Nat := z / 2 ^ (i * nb) &&& (2 ^ nb - 1)
/-- The rows of a number, the last ones. -/
def rowsT (nb z : Nat) : Nat → List Nat
  | 0 => []
  | i + 1 => rdig nb z i :: rowsT nb z i
theorem rowsT_len (nb z : Nat) : ∀ i, (rowsT nb z i).length = i
  | 0 => rfl
  | i + 1 => by simp [rowsT, rowsT_len nb z i]
theorem rdig_lt (nb z i : Nat) : rdig nb z i < 2 ^ nb := by
  have h := Nat.two_pow_pos nb
  have : rdig nb z i ≤ 2 ^ nb - 1 := Nat.and_le_right
  omega
theorem rowsT_lt (nb z : Nat) : ∀ i, ∀ r ∈ rowsT nb z i, r < 2 ^ nb
  | 0, r, h => by cases h
  | i + 1, r, h => by
    rcases List.mem_cons.1 h with h | h
    · rw [h]; exact rdig_lt nb z i
    · exact rowsT_lt nb z i r h
theorem l30A (n nb z gg : Nat) (P : Int) (cap : List AV) (h3 : n ≤ 3) (h8 : n * nb ≤ 8) (hz : z < 256) (hnb : nb ≤ 8) (σ0 : St) : ∀ (j : Nat) (acc : List Nat) (b : Nat) (σ : St), acc.length + j = n → Old σ0 σ → σ0.n ≤ b → Row σ b (wints acc) →
    ∃ b' σ', exI TT (FI.of Tryz.f30 (TT.an 30)) K30_1 [(0, .int .i64 (n : Nat)), (2, .fn gg [] cap), (7, .int .i64 nb), (9, .int .i64 z), (10, .sl b 0 acc.length acc.length), (11, .int .i64 ((j : Int) - 1)), (33, .int .i64 P), (34, .int .i64 z)] σ = exI TT (FI.of Tryz.f30 (TT.an 30)) K30_1 [(0, .int .i64 (n : Nat)), (2, .fn gg [] cap), (7, .int .i64 nb), (9, .int .i64 z), (10, .sl b' 0 n n), (11, .int .i64 (-1)), (33, .int .i64 P), (34, .int .i64 z)] σ' ∧ Old σ0 σ' ∧ σ0.n ≤ b' ∧ Row σ' b' (wints (acc ++ rowsT nb z j)) := by
  intro j
  induction j with
  | zero =>
    intro acc b σ hj ho hb hr
    obtain rfl : acc.length = n := by omega
    exact ⟨b, σ, rfl, ho, hb, by rw [rowsT, List.append_nil]; exact hr⟩
  | succ j ih =>
    intro acc b σ hj ho hb hr
    have hj1 : (((j + 1 : Nat) : Int) - 1) = (j : Int) := by omega
    have hjn : j * nb ≤ n * nb := Nat.mul_le_mul_right _ (by omega)
    have hp : 2 ^ nb ≤ 2 ^ 8 := Nat.pow_le_pow_right (by decide) hnb
    have hp0 := Nat.two_pow_pos nb
    have hd := rdig_lt nb z j
    obtain ⟨σ2, a1, a2, a3, a4⟩ := append_row (T := TT) (st := 28) (x := (rdig nb z j : Int)) ty28 ty2 hr (n := acc.length) (by simp [wints]) (by omega)
    have hbl : b < σ.n := by obtain ⟨_, _, h⟩ := hr; exact h
    have hon := ho.1
    have o2 : Old σ0 σ2 := ⟨by omega, fun c hc => by rw [a4 c (by omega) (by omega)]; exact ho.2 c hc⟩
    have hcat : wints acc ++ [(rdig nb z j : Int)] = wints (acc ++ [rdig nb z j]) := by simp [wints]
    obtain ⟨b', σ', d1, d2, d3, d4⟩ := ih (acc ++ [rdig nb z j]) (σ.n + 1) σ2 (by simp; omega) o2 (by omega) (hcat ▸ a2)
    rw [List.length_append, List.length_singleton] at d1
    refine ⟨b', σ', ?_, d2, d3, ?_⟩
    · rw [hj1, ← d1]
      have hx : z / 2 ^ (j * nb) ≤ z := Nat.div_le_self _ _
      exact s30 n P j ((j : Int) - 1) ((2 ^ nb : Nat) : Int) nb z gg b acc.length (σ.n + 1) (acc.length + 1) (j * nb) (z / 2 ^ (j * nb)) (2 ^ nb - 1) (rdig nb z j) cap σ _ σ2 (by omega) (by rw [← Int.natCast_mul]; exact wrapA_id (by omega) (by omega)) (by rw [Nat.min_eq_left (by simp [IntKind.bits]; omega)]; exact w_shr _ _) (pow_sh2 nb (by omega)) (by rw [show ((2 ^ nb : Nat) : Int) - 1 = ((2 ^ nb - 1 : Nat) : Int) by omega]; exact wrapA_id (by omega) (by omega)) (w_and .i64 (by simp only [topOf]; omega) (by simp only [topOf]; omega)) (build_one ty28 ty2) a1 (wrapA_id (by omega) (by omega))
    · rw [List.append_assoc] at d4
      exact d4
theorem l30 (n nb gg : Nat) (cap : List AV) (h1 : 1 ≤ n) (h3 : n ≤ 3) (h8 : n * nb ≤ 8) (hnb : nb ≤ 8) (I : Nat → St → Prop) (N0 : Nat) (hI : ∀ z σ σ', I z σ → Old σ σ' → I z σ')
    (hst : ∀ z σ b, z < 2 ^ (n * nb) → I z σ → N0 ≤ b → Row σ b (wints (rowsT nb z n)) → ∃ σ', callI TT gg (.sl b 0 n n :: cap) σ = some (.tup [], σ') ∧ N0 ≤ σ'.n ∧ I (z + 1) σ') :
    ∀ (k z : Nat) (σ : St), z + k = 2 ^ (n * nb) → N0 ≤ σ.n → I z σ → ∃ σ', exI TT (FI.of Tryz.f30 (TT.an 30)) K30_0 [(0, .int .i64 (n : Nat)), (2, .fn gg [] cap), (7, .int .i64 nb), (33, .int .i64 (2 ^ (n * nb) : Nat)), (34, .int .i64 z)] σ = some (.bool true, σ') ∧ I (2 ^ (n * nb)) σ' := by
  intro k
  have hP : 2 ^ (n * nb) ≤ 2 ^ 8 := Nat.pow_le_pow_right (by decide) h8
  induction k with
  | zero =>
    intro z σ hz hN h
    obtain rfl : z = 2 ^ (n * nb) := by omega
    exact ⟨σ, e30 _ _ _ _ _ σ, h⟩
  | succ k ih =>
    intro z σ hz hN h
    have hz1 : ((z + 1 : Nat) : Int) = (z : Int) + 1 := by omega
    have c1 := build_nil (T := TT) (σ := σ) (st := 28) ty28 ty2
    have st := a30 n ((2 ^ (n * nb) : Nat) : Int) ((n : Int) - 1) nb z gg cap σ _ (by omega) c1 (wrapA_id (by omega) (by omega))
    obtain ⟨b, σ1, d1, d2, d3, d4⟩ := l30A n nb z gg ((2 ^ (n * nb) : Nat) : Int) cap h3 h8 (by omega) hnb σ n [] σ.n (σ.push ⟨ints [], 1, false⟩) (by simp) Old.push (Nat.le_refl _) Row.push
    obtain ⟨σ2, e1, e2, e3⟩ := hst z σ1 b (by omega) (hI _ _ _ h d2) (by omega) d4
    obtain ⟨σ', k1, k2⟩ := ih (z + 1) σ2 (by omega) e2 e3
    rw [hz1] at k1
    exact ⟨σ', (st.trans (d1.trans (x30 n _ nb z gg b n cap σ1 σ2 e1 (wrapA_id (by omega) (by omega))))).trans k1, k2⟩
theorem c30 (n nb gg : Nat) (cap : List AV) (h1 : 1 ≤ n) (h3 : n ≤ 3) (h8 : n * nb ≤ 8) (lf : List (Int × Int)) (hs : isSrc lf = true) (hlf : lf.length ≤ 10000000) (hnb : (bl lf.length : Int) - 1 = nb) (I : Nat → St → Prop) (hI : ∀ z σ σ', I z σ → Old σ σ' → I z σ') (σ : St)
    (hst : ∀ z σ1 b, z < 2 ^ (n * nb) → I z σ1 → σ.n ≤ b → Row σ1 b (wints (rowsT nb z n)) → ∃ σ', callI TT gg (.sl b 0 n n :: cap) σ1 = some (.tup [], σ') ∧ σ.n ≤ σ'.n ∧ I (z + 1) σ') (h0 : I 0 σ) :
    ∃ σ', callI TT 30 [.int .i64 n, FS lf, .fn gg [] cap] σ = some (.bool true, σ') ∧ I (2 ^ (n * nb)) σ' := by
  have hnb8 : nb ≤ 8 := Nat.le_trans (by have := Nat.mul_le_mul_right nb h1; omega) h8
  obtain ⟨σ', k1, k2⟩ := l30 n nb gg cap h1 h3 h8 hnb8 I σ.n hI hst (2 ^ (n * nb)) 0 σ (by omega) (Nat.le_refl _) h0
  have c1 := fun σ => r39 lf hlf σ [FS lf] rfl
  rw [hs, hnb] at c1
  have c2 := fun σ => v49 n 1 3 σ [.int .i64 n, .int .i64 1, .int .i64 3] rfl
  have e3 : (decide ((1 : Int) ≤ (n : Int)) && decide ((n : Int) ≤ 3)) = true := by rw [decide_eq_true (by omega), decide_eq_true (by omega)]; rfl
  rw [e3] at c2
  refine ⟨σ', ?_, k2⟩
  exact (cI_0 fn30 rfl md30).trans ((b30e lf.length n ((2 ^ (n * nb) : Nat) : Int) nb (n * nb) gg (flat FC lf) cap σ c1 c2 (by rw [← Int.natCast_mul]; exact wrapA_id (by omega) (by omega)) (by omega) (pow_sh2 (n * nb) (by omega))).trans k1)

set_option maxHeartbeats 4000000 in
theorem k31 (N n b S L M : Nat) (ps d s u : List AV) (m m2 : Int) (σ σ1 σ2 σ3 : St) (l1 : cellsAt σ (.ptr S 0) 3 = some s) (l1b : cellsAt σ1 (.ptr S 0) 3 = some s) (l2 : cellsAt σ (.ptr L 0) 1 = some [.lst N ps]) (c1 : callI TT 27 [.sl b 0 n n, .lst N ps] σ = some (.agg d, σ1)) (c2 : ∀ σ, callI TT 32 [.agg s, .agg d] σ = some (.agg u, σ)) (hes : eqvs s s = true) (hu : u.length = 3) (s1 : storeCellsA σ1 S 0 u = some σ2) (l3 : cellsAt σ2 (.ptr M 0) 1 = some [.int .i64 m]) (hm : wrapA .i64 (m + 1) = m2) (s2 : storeCellsA σ2 M 0 [.int .i64 m2] = some σ3) :
    exI TT (FI.of Tryz.f31 (TT.an 31)) [.code (Tryz.f31.body.getD .skip)] (paramsE 0 [.sl b 0 n n, .ptr S 0, .ptr L 0, .ptr M 0]) σ = some (.tup [], σ3) := by
  rw [fi31]
  simp only [Tryz.f31, Option.getD]
  simp (maxSteps := 1000000) (disch := omega) [getCells, takeN, dropN, fieldAddrA, allOne, AV.one, n_push, putN, overN, blt_dec, buildA, sizesOf, fillA, putCells, List.take_succ_cons, List.take_zero, List.drop_succ_cons, List.drop_zero, List.nil_append, List.cons_append, List.length_cons, List.length_nil, eqvs_dgs, convA, binNil, eqNil, l1, l1b, l2, c1, c2, hes, hu, s1, l3, hm, s2]
set_option maxHeartbeats 4000000 in
theorem k10 (k N : Nat) (n m x y : Int) (cells ps o d w v : List AV) (σ0 σ1 σ2 σ3 σ4 σ5 : St) (h0 : (((((⟨[], 0⟩ : St).push ⟨[.int .i64 0, .int .i64 0], 2, false⟩).push ⟨[.bool false, .nilS, .nilS], 3, false⟩).push ⟨[.int .i64 0], 1, false⟩).push ⟨[.nilS], 1, false⟩) = σ0) (c1 : ∀ σ, callI TT 29 [.int .i64 0] σ = some (.agg o, σ)) (c2 : ∀ σ, callI TT 26 [.lst k cells] σ = some (.lst N ps, σ)) (ho : o.length = 3) (s1 : storeCellsA σ0 1 0 o = some σ1) (s2 : storeCellsA σ1 2 0 [.int .i64 0] = some σ2) (s3 : storeCellsA σ2 3 0 [.lst N ps] = some σ3) (c3 : callI TT 30 [.int .i64 n, .lst k cells, .fn 31 [] [.ptr 1 0, .ptr 3 0, .ptr 2 0]] σ3 = some (.bool true, σ4)) (l1 : cellsAt σ4 (.ptr 1 0) 3 = some d) (l2 : cellsAt σ4 (.ptr 2 0) 1 = some [.int .i64 m]) (c4 : ∀ σ, callI TT 29 [.int .i64 m] σ = some (.agg w, σ)) (c5 : ∀ σ, callI TT 33 [.agg d, .agg w] σ = some (.agg v, σ)) (c6 : ∀ σ, callI TT 28 [.agg v] σ = some (.tup [.agg [.int .i64 x, .int .i64 y], .bool true], σ)) (hed : eqvs d d = true) (s4 : storeCellsA σ4 0 0 [.int .i64 x, .int .i64 y] = some σ5) (l4 : cellsAt σ5 (.ptr 0 0) 2 = some [.int .i64 x, .int .i64 y]) :
    exI TT (FI.of Tryz.f10 (TT.an 10)) [.code (Tryz.f10.body.getD .skip)] (paramsE 0 [.int .i64 n, .lst k cells]) ⟨[], 0⟩ = some (.tup [.agg [.int .i64 x, .int .i64 y], .bool true], σ5) := by
  rw [fi10]
  simp only [Tryz.f10, Option.getD]
  simp (maxSteps := 1000000) (disch := omega) [getCells, takeN, dropN, fieldAddrA, allOne, AV.one, n_push, putN, overN, blt_dec, buildA, sizesOf, fillA, putCells, List.take_succ_cons, List.take_zero, List.drop_succ_cons, List.drop_zero, List.nil_append, List.cons_append, List.length_cons, List.length_nil, eqvs_dgs, convA, binNil, eqNil, h0, c1, c2, ho, s1, s2, s3, c3, l1, l2, c4, c5, c6, hed, s4, l4]
theorem rows16 {nb : Nat} (hnb : nb ≤ 4) (z n : Nat) : ∀ r ∈ rowsT nb z n, r < 16 := fun r hr => by
  have := rowsT_lt nb z n r hr
  have hp : 2 ^ nb ≤ 2 ^ 4 := Nat.pow_le_pow_right (by decide) hnb
  omega
theorem row_rv {σ : St} {b nb z n : Nat} (h : Row σ b (wints (rowsT nb z n))) : RvL σ (.sl b 0 n n) (nintsL (rowsT nb z n)) := .inr ⟨b, by rw [nintsL_len, rowsT_len], h⟩

/-- What the cells of the average hold behind so many lists of rows. -/
def AI (n nb : Nat) (p : List Rat) (S L M z : Nat) (σ : St) : Prop := Bx σ S (RC (sumI (fun j => unQ (rowsT nb j n) p) z)) ∧ Bx σ L [RS p] ∧ Bx σ M [.int .i64 z]
theorem AI.old {n nb : Nat} {p : List Rat} {S L M z : Nat} {σ σ' : St} (h : AI n nb p S L M z σ) (o : Old σ σ') : AI n nb p S L M z σ' := ⟨h.1.old o, h.2.1.old o, h.2.2.old o⟩
theorem sum_bd (n nb : Nat) (h3 : n ≤ 3) (p : List Rat) (hp : ∀ x ∈ p, Bd 60 x) (hpl : p.length ≤ 16) (z : Nat) (hz : z ≤ 256) : Bd 30000000 (sumI (fun j => unQ (rowsT nb j n) p) z) := by
  have hmul : z * 100001 ≤ 256 * 100001 := Nat.mul_le_mul_right _ hz
  exact (sumI_bd z fun i hi => unQ_bd (l := rowsT nb i n) (by rw [rowsT_len]; exact h3) hp hpl).mono (by omega)
theorem c31 (n nb : Nat) (h3 : n ≤ 3) (hnb : nb ≤ 4) (p : List Rat) (hp : ∀ x ∈ p, Bd 60 x) (hpl : p.length ≤ 16) (S L M N0 : Nat) (hS : S < N0) (hM : M < N0) (hSL : L ≠ S) (hLM : L ≠ M) (hSM : S ≠ M) (z : Nat) (hz : z < 256) (σ : St) (b : Nat) (hI : AI n nb p S L M z σ) (hb : N0 ≤ b) (hr : Row σ b (wints (rowsT nb z n))) :
    ∃ σ', callI TT 31 [.sl b 0 n n, .ptr S 0, .ptr L 0, .ptr M 0] σ = some (.tup [], σ') ∧ N0 ≤ σ'.n ∧ AI n nb p S L M (z + 1) σ' ∧ ∀ c, c < N0 → c ≠ S → c ≠ M → σ'.get c = σ.get c := by
  obtain ⟨i1, i2, i3⟩ := hI
  have hrl := hr.lt
  have hz1 : ((z + 1 : Nat) : Int) = (z : Int) + 1 := by omega
  obtain ⟨σ1, c1, o1⟩ := c27 (rowsT nb z n) (rows16 hnb z n) (by rw [rowsT_len]; exact h3) p hp hpl (.sl b 0 n n) σ (row_rv hr)
  have o1n := o1.1
  have c2 := fun σ : St => (r32 (sum_bd n nb h3 p hp hpl z (by omega)) ((unQ_bd (l := rowsT nb z n) (by rw [rowsT_len]; exact h3) hp hpl).mono (by decide)) (by decide)).pure σ rfl rfl
  obtain ⟨σ2, s1, x1, y1⟩ := (i1.old o1).st (ws := RC (sumI (fun j => unQ (rowsT nb j n) p) (z + 1))) rfl (RC_one _)
  obtain ⟨σ3, s2, x2, y2⟩ := ((i3.old o1).but hSM.symm y1).st (ws := [.int .i64 ((z + 1 : Nat) : Int)]) rfl rfl
  refine ⟨σ3, (cI_0 fn31 rfl md31).trans (k31 p.length n b S L M (flat RC p) (RC (unQ (rowsT nb z n) p)) _ _ z ((z + 1 : Nat) : Int) σ σ1 σ2 σ3 (i1.rd rfl) ((i1.old o1).rd rfl) (i2.rd rfl) c1 c2 (RC_eqv _) rfl s1 (((i3.old o1).but hSM.symm y1).rd rfl) (by rw [hz1]; exact wrapA_id (by omega) (by omega)) s2), by rw [y2.1, y1.1]; omega, ⟨x1.but hSM y2, ((i2.old o1).but hSL y1).but hLM y2, x2⟩, fun c hc hcS hcM => by rw [y2.2 c hcM, y1.2 c hcS, o1.2 c (by omega)]⟩

/-- The average distance of what all lists of rows make. -/
def avQ (n nb : Nat) (p : List Rat) : Rat := sumI (fun j => unQ (rowsT nb j n) p) (2 ^ (n * nb)) / mkRat ((2 ^ (n * nb) : Nat) : Int) 1
theorem r10 (n nb : Nat) (h1 : 1 ≤ n) (h3 : n ≤ 3) (h8 : n * nb ≤ 8) (hnb4 : nb ≤ 4) (p : List Rat) (hf : ∀ x ∈ p, fits x = true) (hpl : p.length ≤ 16) (hs : isSrc (frL p) = true) (hnb : (bl p.length : Int) - 1 = nb) (hfu : fits (avQ n nb p) = true) :
    FnV TT 10 [.int .i64 n, FS (frL p)] (.tup [.agg (QC (avQ n nb p)), .bool true]) := by
  have hp := fits_bds hf
  have hP := Nat.two_pow_pos (n * nb)
  have hP8 : 2 ^ (n * nb) ≤ 2 ^ 8 := Nat.pow_le_pow_right (by decide) h8
  have c1 := fun σ : St => (r29 (n := 0) (by decide) (by decide)).pure σ rfl rfl
  have c2 := r26 (frL p) (frL_vfl hf) (by rw [frL_len]; omega)
  rw [frL_rq] at c2
  have hb1 : Bx (((((⟨[], 0⟩ : St).push ⟨[.int .i64 0, .int .i64 0], 2, false⟩).push ⟨[.bool false, .nilS, .nilS], 3, false⟩).push ⟨[.int .i64 0], 1, false⟩).push ⟨[.nilS], 1, false⟩) 1 [.bool false, .nilS, .nilS] := ((Bx.push (σ := ((⟨[], 0⟩ : St).push ⟨[.int .i64 0, .int .i64 0], 2, false⟩)) (vs := [.bool false, .nilS, .nilS]) (m := 3)).old Old.push).old Old.push
  have hb2 : Bx (((((⟨[], 0⟩ : St).push ⟨[.int .i64 0, .int .i64 0], 2, false⟩).push ⟨[.bool false, .nilS, .nilS], 3, false⟩).push ⟨[.int .i64 0], 1, false⟩).push ⟨[.nilS], 1, false⟩) 2 [.int .i64 0] := (Bx.push (σ := (((⟨[], 0⟩ : St).push ⟨[.int .i64 0, .int .i64 0], 2, false⟩).push ⟨[.bool false, .nilS, .nilS], 3, false⟩)) (vs := [.int .i64 0]) (m := 1)).old Old.push
  have hb3 : Bx (((((⟨[], 0⟩ : St).push ⟨[.int .i64 0, .int .i64 0], 2, false⟩).push ⟨[.bool false, .nilS, .nilS], 3, false⟩).push ⟨[.int .i64 0], 1, false⟩).push ⟨[.nilS], 1, false⟩) 3 [.nilS] := Bx.push (σ := ((((⟨[], 0⟩ : St).push ⟨[.int .i64 0, .int .i64 0], 2, false⟩).push ⟨[.bool false, .nilS, .nilS], 3, false⟩).push ⟨[.int .i64 0], 1, false⟩))
  have hb0 : Bx (((((⟨[], 0⟩ : St).push ⟨[.int .i64 0, .int .i64 0], 2, false⟩).push ⟨[.bool false, .nilS, .nilS], 3, false⟩).push ⟨[.int .i64 0], 1, false⟩).push ⟨[.nilS], 1, false⟩) 0 [.int .i64 0, .int .i64 0] := (((Bx.push (σ := (⟨[], 0⟩ : St)) (vs := [.int .i64 0, .int .i64 0]) (m := 2)).old Old.push).old Old.push).old Old.push
  obtain ⟨σ1, s1, x1, y1⟩ := hb1.st (ws := RC (mkRat 0 1)) rfl (RC_one _)
  obtain ⟨σ2, s2, x2, y2⟩ := (hb2.but (by decide) y1).st (ws := [.int .i64 0]) rfl rfl
  obtain ⟨σ3, s3, x3, y3⟩ := ((hb3.but (by decide) y1).but (by decide) y2).st (ws := [RS p]) rfl rfl
  have hn3 : σ3.n = 4 := by rw [y3.1, y2.1, y1.1]; rfl
  have hz0 := ((hb0.but (by decide) y1).but (by decide) y2).but (by decide) y3
  obtain ⟨σ4, c3, ⟨i0, _⟩, iS, iL, iM⟩ := c30 n nb 31 [.ptr 1 0, .ptr 3 0, .ptr 2 0] h1 h3 h8 (frL p) hs (by rw [frL_len]; omega) (by rw [frL_len]; exact hnb) (fun z σ => (Bx σ 0 [.int .i64 0, .int .i64 0] ∧ 4 ≤ σ.n) ∧ AI n nb p 1 3 2 z σ) (fun z σ σ' h o => ⟨⟨h.1.1.old o, Nat.le_trans h.1.2 o.1⟩, h.2.old o⟩) σ3
    (fun z σ b hz hI hb hr => by
      obtain ⟨σ', a1, a2, a3, a4⟩ := c31 n nb h3 hnb4 p hp hpl 1 3 2 4 (by decide) (by decide) (by decide) (by decide) (by decide) z (by omega) σ b hI.2 (by omega) hr
      obtain ⟨⟨mm, hg⟩, _⟩ := hI.1.1
      exact ⟨σ', a1, by omega, ⟨⟨⟨mm, by rw [a4 0 (by decide) (by decide) (by decide)]; exact hg⟩, by omega⟩, a2⟩, a3⟩)
    ⟨⟨hz0, by omega⟩, (x1.but (by decide) y2).but (by decide) y3, x3, x2.but (by decide) y3⟩
  have c4 := fun σ : St => (r29 (n := ((2 ^ (n * nb) : Nat) : Int)) (by omega) (by omega)).pure σ rfl rfl
  have hm : mkRat ((2 ^ (n * nb) : Nat) : Int) 1 ≠ 0 := by
    rw [Rat.mkRat_ne_zero (by decide)]; omega
  have hmb : Bd 30000000 (mkRat ((2 ^ (n * nb) : Nat) : Int) 1) := (low_bd (k := 30) (b := false) (n := 2 ^ (n * nb)) (d := 1) (by decide) (Nat.lt_of_le_of_lt hP8 (by decide)) (by decide)).mono (by decide)
  have c5 := fun σ : St => (r33 (sum_bd n nb h3 p hp hpl _ hP8) hmb hm (by decide)).pure σ rfl rfl
  have c6 := r28 (fits_bd hfu) (by decide)
  rw [frA_yes hfu] at c6
  obtain ⟨σ5, s4, x4, _⟩ := i0.st (ws := QC (avQ n nb p)) rfl rfl
  exact FnV.mk fn10 rfl md10 ⟨σ5, k10 _ p.length _ _ _ _ _ (flat RC p) (RC (mkRat 0 1)) _ _ _ _ σ1 σ2 σ3 σ4 σ5 rfl c1 (fun σ => c2.pure σ rfl rfl) rfl s1 s2 s3 c3 (iS.rd rfl) (iM.rd rfl) c4 c5 (fun σ => c6 σ _ rfl) (RC_eqv _) s4 (x4.rd rfl)⟩ (fun _ => rfl) rfl

theorem src_of {n D j : Nat} {p : List Rat} (h : ChL n D p) (hj : n = 2 ^ j) (j1 : 1 ≤ j) (j3 : j ≤ 3) (hD : 0 < D) (hb : D ≤ 1000000000000000000) : isSrc (frL p) = true ∧ (bl p.length : Int) - 1 = j := by
  have hjj : j = 1 ∨ j = 2 ∨ j = 3 := by omega
  have hc := h.isCh (by rw [hj]; exact Nat.two_pow_pos j) (by rw [hj]; rcases hjj with rfl | rfl | rfl <;> decide) hD hb
  have hl : (frL p).length = 2 ^ j := by rw [frL_len, h.len, hj]
  have hl2 : p.length = 2 ^ j := by rw [h.len, hj]
  rw [hl2]
  unfold isSrc srcBits
  rcases hjj with rfl | rfl | rfl
  · exact ⟨by simp [bitsF, hl, hc], by decide⟩
  · exact ⟨by simp [bitsF, hl, hc], by decide⟩
  · exact ⟨by simp [bitsF, hl, hc], by decide⟩
theorem sumI_pick {a : Nat} {c : Rat} : ∀ {m : Nat}, a < m → sumI (fun k => if a = k then c else 0) m = c
  | 0, h => by omega
  | m + 1, h => by
    rw [sumI]
    rcases Nat.lt_or_ge a m with h1 | h1
    · rw [sumI_pick h1, if_neg (by omega)]; grind
    · have : a = m := by omega
      rw [if_pos this, sumI_zero fun i hi => if_neg (by omega)]; grind
theorem ex_ch {N D : Nat} {p : List Rat} (h : ChL N D p) (hD : 0 < D) (l : List Nat) : ChL (2 ^ l.length) D (exL l p p.length) := by
  have hA : ∀ x, appR x l 0 0 < 2 ^ l.length := fun x => by have := appR_lt x l 0 0 (by decide); rwa [Nat.zero_add] at this
  refine ⟨exL_len l p _, fun x hx => ?_, ?_⟩
  · obtain ⟨k, _, rfl⟩ := List.mem_map.1 hx
    refine Ov.sumI _ fun i _ => ?_
    split
    · exact (h.at hD i).1
    · exact Ov.zero D
  · have e1 : ∀ k, k < 2 ^ l.length → atL (exL l p p.length) k = sumI (fun x => if appR x l 0 0 = k then atL p x else 0) p.length := by
      intro k hk
      have := exL_get l p p.length hk
      rw [atL, List.getD_eq_getElem?_getD, this]; rfl
    rw [sumI_congr e1, sumI_comm, sumI_congr (g := atL p) fun x _ => sumI_pick (hA x), h.len, h.sum]
theorem sum_rep (N : Nat) : (List.replicate N 1).sum = N := by
  induction N with
  | zero => rfl
  | succ n ih => rw [List.replicate_succ, List.sum_cons, ih]; omega
theorem ev_ch {N : Nat} (h : 1 ≤ N) : ChL N N (evQ N) := by
  have hw : Wts N (List.replicate N 1) := ⟨by simp, fun x hx => by rw [List.eq_of_mem_replicate hx]; decide, by rw [sum_rep]; exact h⟩
  have := wq_ch hw
  rw [sum_rep] at this
  have e : wq N (List.replicate N 1) = evQ N := by simp [wq, evQ, repQ]
  rwa [e] at this
theorem un_ok {N D : Nat} {p : List Rat} (h : ChL N D p) (hD : 0 < D) (l : List Nat) : Ov (D * 2 ^ l.length * 2) (unQ l p) ∧ unQ l p ≤ 1 ∧ 0 ≤ unQ l p :=
  dist_ov (ex_ch h hD l) (ev_ch (Nat.two_pow_pos l.length)) hD (Nat.two_pow_pos l.length)
theorem un_fits {N D : Nat} {p : List Rat} (h : ChL N D p) (hD : 0 < D) (hb : D ≤ 64) (l : List Nat) (hl : l.length ≤ 3) : fits (unQ l p) = true := by
  obtain ⟨h1, h2, _⟩ := un_ok h hD l
  have hp := Nat.two_pow_pos l.length
  have hp3 : 2 ^ l.length ≤ 2 ^ 3 := Nat.pow_le_pow_right (by decide) hl
  have hm : D * 2 ^ l.length ≤ 64 * 2 ^ 3 := Nat.mul_le_mul hb hp3
  exact h1.fits (Nat.mul_pos (Nat.mul_pos hD hp) (by decide)) h2 (by omega)
theorem sumI_const (c : Rat) : ∀ n : Nat, sumI (fun _ => c) n = (n : Rat) * c
  | 0 => by rw [show ((0 : Nat) : Rat) = 0 from rfl, Rat.zero_mul]; rfl
  | n + 1 => by rw [sumI, sumI_const c n, show (((n + 1 : Nat) : Rat)) = (n : Rat) + 1 from Rat.natCast_add n 1]; grind
theorem av_eq (n nb : Nat) (p : List Rat) : avQ n nb p = sumI (fun j => unQ (rowsT nb j n) p) (2 ^ (n * nb)) / ((2 ^ (n * nb) : Nat) : Rat) := by
  rw [avQ, Rat.mkRat_eq_div]
  congr 1
  rw [show ((1 : Nat) : Rat) = 1 from rfl, Rat.div_def, show ((1 : Rat)⁻¹) = 1 by decide +kernel, Rat.mul_one]; rfl
theorem av_between {n nb : Nat} {p : List Rat} {a b : Rat} (h : ∀ j, j < 2 ^ (n * nb) → a ≤ unQ (rowsT nb j n) p ∧ unQ (rowsT nb j n) p ≤ b) : a ≤ avQ n nb p ∧ avQ n nb p ≤ b := by
  have hP := natCast_pos (Nat.two_pow_pos (n * nb))
  have h1 := sumI_le (f := fun _ => a) (g := fun j => unQ (rowsT nb j n) p) fun j hj => (h j hj).1
  have h2 := sumI_le (f := fun j => unQ (rowsT nb j n) p) (g := fun _ => b) fun j hj => (h j hj).2
  rw [sumI_const] at h1 h2
  rw [av_eq]
  generalize sumI (fun j => unQ (rowsT nb j n) p) (2 ^ (n * nb)) = s at *
  generalize ((2 ^ (n * nb) : Nat) : Rat) = P at *
  have hi : 0 < P⁻¹ := Rat.inv_pos.2 hP
  have hne : P ≠ 0 := by grind
  have e : P * P⁻¹ = 1 := Rat.mul_inv_cancel _ hne
  rw [Rat.div_def]
  have g1 := Rat.mul_le_mul_of_nonneg_right h1 (Rat.le_of_lt hi)
  have g2 := Rat.mul_le_mul_of_nonneg_right h2 (Rat.le_of_lt hi)
  have e1 : P * a * P⁻¹ = a := by rw [Rat.mul_comm P a, Rat.mul_assoc, e, Rat.mul_one]
  have e2 : P * b * P⁻¹ = b := by rw [Rat.mul_comm P b, Rat.mul_assoc, e, Rat.mul_one]
  rw [e1] at g1; rw [e2] at g2
  exact ⟨g1, g2⟩
theorem av_fits {N D n nb : Nat} {p : List Rat} (h : ChL N D p) (hD : 0 < D) (hb : D ≤ 64) (hn : n ≤ 3) (h8 : n * nb ≤ 8) : fits (avQ n nb p) = true := by
  have hP := Nat.two_pow_pos (n * nb)
  have hP8 : 2 ^ (n * nb) ≤ 2 ^ 8 := Nat.pow_le_pow_right (by decide) h8
  have hp := Nat.two_pow_pos n
  have hp3 : 2 ^ n ≤ 2 ^ 3 := Nat.pow_le_pow_right (by decide) hn
  have hu := fun j => un_ok h hD (rowsT nb j n)
  simp only [rowsT_len] at hu
  have h1 := (av_between (n := n) (nb := nb) (p := p) (a := 0) (b := 1) fun j _ => ⟨(hu j).2.2, (hu j).2.1⟩).2
  have hs := Ov.sumI (2 ^ (n * nb)) fun j (_ : j < 2 ^ (n * nb)) => (hu j).1
  have hav : Ov (D * 2 ^ n * 2 * 2 ^ (n * nb)) (avQ n nb p) := by
    have := hs.mul (Ov.mk 1 (2 ^ (n * nb)))
    rw [av_eq, Rat.div_def]
    rw [Rat.mkRat_eq_div, Rat.div_def, show (((1 : Nat) : Int) : Rat) = 1 from rfl, Rat.one_mul] at this
    exact this
  have hm : D * 2 ^ n ≤ 64 * 2 ^ 3 := Nat.mul_le_mul hb hp3
  have hm2 : D * 2 ^ n * 2 * 2 ^ (n * nb) ≤ (64 * 2 ^ 3 * 2) * 2 ^ 8 := Nat.mul_le_mul (by omega) hP8
  exact hav.fits (Nat.mul_pos (Nat.mul_pos (Nat.mul_pos hD hp) (by decide)) hP) h1 (by omega)
theorem rdig_mod (nb z i : Nat) : rdig nb z i = z / 2 ^ (i * nb) % 2 ^ nb := by rw [rdig, Nat.and_two_pow_sub_one_eq_mod]
theorem rdig_low (nb r z m i : Nat) (h : i < m) : rdig nb (r * 2 ^ (m * nb) + z) i = rdig nb z i := by
  rw [rdig_mod, rdig_mod]
  obtain ⟨d, rfl⟩ : ∃ d, m = i + 1 + d := ⟨m - (i + 1), by omega⟩
  have e : r * 2 ^ ((i + 1 + d) * nb) = 2 ^ (i * nb) * (2 ^ nb * (r * 2 ^ (d * nb))) := by
    rw [show (i + 1 + d) * nb = i * nb + nb + d * nb by rw [Nat.add_mul, Nat.add_mul, Nat.one_mul], Nat.pow_add, Nat.pow_add]
    ac_rfl
  rw [e, Nat.mul_add_div (Nat.two_pow_pos _), Nat.mul_add_mod]
theorem rowsT_low (nb r z m : Nat) : ∀ i, i ≤ m → rowsT nb (r * 2 ^ (m * nb) + z) i = rowsT nb z i
  | 0, _ => rfl
  | i + 1, h => by rw [rowsT, rowsT, rdig_low nb r z m i (by omega), rowsT_low nb r z m i (by omega)]
theorem rowsT_all (nb : Nat) : ∀ l : List Nat, (∀ r ∈ l, r < 2 ^ nb) → ∃ z, z < 2 ^ (l.length * nb) ∧ rowsT nb z l.length = l
  | [], _ => ⟨0, Nat.two_pow_pos _, rfl⟩
  | r :: l, h => by
    obtain ⟨z, h1, h2⟩ := rowsT_all nb l fun x hx => h x (by simp [hx])
    have hr := h r (by simp)
    refine ⟨r * 2 ^ (l.length * nb) + z, ?_, ?_⟩
    · rw [List.length_cons, Nat.succ_mul, Nat.pow_add]
      have : (r + 1) * 2 ^ (l.length * nb) ≤ 2 ^ nb * 2 ^ (l.length * nb) := Nat.mul_le_mul_right _ hr
      rw [Nat.add_mul, Nat.one_mul] at this
      rw [Nat.mul_comm (2 ^ (l.length * nb))]
      omega
    · rw [List.length_cons, rowsT, rowsT_low nb r z l.length _ (Nat.le_refl _), h2, rdig_mod]
      congr 1
      rw [Nat.mul_comm r, Nat.mul_add_div (Nat.two_pow_pos _), Nat.div_eq_of_lt h1, Nat.add_zero, Nat.mod_eq_of_lt hr]

/-- Cauchy and Schwarz for one list. -/
theorem sumI_sq (f : Nat → Rat) : ∀ n : Nat, sumI f n * sumI f n ≤ (n : Rat) * sumI (fun i => f i * f i) n := by
  intro n
  -- the sum of the squares of all differences
  have h : 0 ≤ sumI (fun i => sumI (fun j => (f i - f j) * (f i - f j)) n) n := sumI_nonneg fun i _ => sumI_nonneg fun j _ => by
    rcases Rat.le_total (a := 0) (b := f i - f j) with h | h
    · exact Rat.mul_nonneg h h
    · have : 0 ≤ (-(f i - f j)) * (-(f i - f j)) := Rat.mul_nonneg (by grind) (by grind)
      grind
  have e : sumI (fun i => sumI (fun j => (f i - f j) * (f i - f j)) n) n = 2 * ((n : Rat) * sumI (fun i => f i * f i) n) - 2 * (sumI f n * sumI f n) := by
    have e1 : ∀ i, sumI (fun j => (f i - f j) * (f i - f j)) n = (n : Rat) * (f i * f i) + (sumI (fun j => f j * f j) n - 2 * f i * sumI f n) := by
      intro i
      rw [← sumI_mul, ← sumI_sub, ← sumI_const, ← sumI_add]
      exact sumI_congr fun j _ => by grind
    rw [sumI_congr fun i _ => e1 i, sumI_add, sumI_mul, sumI_sub, sumI_const, sumI_mulr, sumI_mul]
    grind
  grind
/-- Do two numbers lead to the same, by a list of rows. -/
def sameN (nb n x y : Nat) : Nat := ((List.range (2 ^ (n * nb))).filter fun z => appR x (rowsT nb z n) 0 0 == appR y (rowsT nb z n) 0 0).length
theorem sameN_eq {nb n : Nat} (b1 : 1 ≤ nb) (b3 : nb ≤ 3) (n1 : 1 ≤ n) (n2 : n ≤ 2) {x y : Nat} (hx : x < 2 ^ nb) (hy : y < 2 ^ nb) (h : x ≠ y) : sameN nb n x y * 2 ^ n = 2 ^ (n * nb) := by
  have hb : nb = 1 ∨ nb = 2 ∨ nb = 3 := by omega
  have hn : n = 1 ∨ n = 2 := by omega
  rcases hb with rfl | rfl | rfl <;> rcases hn with rfl | rfl
  · have : ∀ x : Fin 2, ∀ y : Fin 2, x.val ≠ y.val → sameN 1 1 x.val y.val * 2 ^ 1 = 2 ^ (1 * 1) := by decide +kernel
    exact this ⟨x, hx⟩ ⟨y, hy⟩ h
  · have : ∀ x : Fin 2, ∀ y : Fin 2, x.val ≠ y.val → sameN 1 2 x.val y.val * 2 ^ 2 = 2 ^ (2 * 1) := by decide +kernel
    exact this ⟨x, hx⟩ ⟨y, hy⟩ h
  · have : ∀ x : Fin 4, ∀ y : Fin 4, x.val ≠ y.val → sameN 2 1 x.val y.val * 2 ^ 1 = 2 ^ (1 * 2) := by decide +kernel
    exact this ⟨x, hx⟩ ⟨y, hy⟩ h
  · have : ∀ x : Fin 4, ∀ y : Fin 4, x.val ≠ y.val → sameN 2 2 x.val y.val * 2 ^ 2 = 2 ^ (2 * 2) := by decide +kernel
    exact this ⟨x, hx⟩ ⟨y, hy⟩ h
  · have : ∀ x : Fin 8, ∀ y : Fin 8, x.val ≠ y.val → sameN 3 1 x.val y.val * 2 ^ 1 = 2 ^ (1 * 3) := by decide +kernel
    exact this ⟨x, hx⟩ ⟨y, hy⟩ h
  · have : ∀ x : Fin 8, ∀ y : Fin 8, x.val ≠ y.val → sameN 3 2 x.val y.val * 2 ^ 2 = 2 ^ (2 * 3) := by decide +kernel
    exact this ⟨x, hx⟩ ⟨y, hy⟩ h
/-- The chance that two numbers lead to the same. -/
def hit (nb n z x y : Nat) : Rat := if appR x (rowsT nb z n) 0 0 = appR y (rowsT nb z n) 0 0 then 1 else 0
theorem sumI_count (P : Nat → Bool) : ∀ m : Nat, sumI (fun z => if P z = true then (1 : Rat) else 0) m = (((List.range m).filter P).length : Rat)
  | 0 => rfl
  | m + 1 => by
    rw [sumI, sumI_count P m, List.range_succ, List.filter_append, List.length_append]
    cases h : P m
    · simp [h]; grind
    · simp [h]
theorem hit_sum {nb n : Nat} (b1 : 1 ≤ nb) (b3 : nb ≤ 3) (n1 : 1 ≤ n) (n2 : n ≤ 2) {x y : Nat} (hx : x < 2 ^ nb) (hy : y < 2 ^ nb) :
    ((2 ^ n : Nat) : Rat) * sumI (fun z => hit nb n z x y) (2 ^ (n * nb)) = ((2 ^ (n * nb) : Nat) : Rat) * (if x = y then ((2 ^ n : Nat) : Rat) else 1) := by
  have e : sumI (fun z => hit nb n z x y) (2 ^ (n * nb)) = (sameN nb n x y : Rat) := by
    rw [sameN, ← sumI_count]
    exact sumI_congr fun z _ => by simp [hit]
  rw [e]
  by_cases h : x = y
  · subst h
    rw [if_pos rfl, Rat.mul_comm]
    congr 2
    rw [sameN, List.filter_eq_self.2 (fun z _ => by simp), List.length_range]
  · rw [if_neg h, Rat.mul_one, ← sameN_eq b1 b3 n1 n2 hx hy h, Rat.natCast_mul]
    exact Rat.mul_comm _ _
theorem abs_sq (a : Rat) : a.abs * a.abs = a * a := by
  rcases Rat.le_total (a := 0) (b := a) with h | h
  · rw [Rat.abs_of_nonneg h]
  · rw [Rat.abs_of_nonpos h]; grind
theorem un_sum (l : List Nat) (p : List Rat) : 2 * unQ l p = sumI (fun k => (exT l p k p.length - mkRat 1 (2 ^ l.length)).abs) (2 ^ l.length) := by
  have e : sumI (adQ (exL l p p.length) (evQ (2 ^ l.length))) (2 ^ l.length) = sumI (fun k => (exT l p k p.length - mkRat 1 (2 ^ l.length)).abs) (2 ^ l.length) := sumI_congr fun k hk => by
    rw [adQ_of (by rw [exL_len]; exact hk) (by simp [evQ, repQ]; exact hk)]
    simp [exL, evQ, repQ]
  rw [unQ, distQ, exL_len, e]
  grind
theorem ex_sum {N D : Nat} {p : List Rat} (h : ChL N D p) (hD : 0 < D) (l : List Nat) : sumI (fun k => exT l p k p.length) (2 ^ l.length) = 1 := by
  rw [← (ex_ch h hD l).sum]
  exact sumI_congr fun k hk => by
    have := exL_get l p p.length hk
    rw [atL, List.getD_eq_getElem?_getD, this]; rfl
theorem un_sq {N D : Nat} {p : List Rat} (h : ChL N D p) (hD : 0 < D) (l : List Nat) : (2 * unQ l p) * (2 * unQ l p) ≤ ((2 ^ l.length : Nat) : Rat) * sumI (fun k => exT l p k p.length * exT l p k p.length) (2 ^ l.length) - 1 := by
  have h1 := sumI_sq (fun k => (exT l p k p.length - mkRat 1 (2 ^ l.length)).abs) (2 ^ l.length)
  rw [← un_sum] at h1
  have hS := natCast_pos (Nat.two_pow_pos l.length)
  have hc : ((2 ^ l.length : Nat) : Rat) * mkRat 1 (2 ^ l.length) = 1 := by
    rw [Rat.mkRat_eq_div, Rat.div_def, show ((1 : Int) : Rat) = 1 from rfl, Rat.one_mul]
    exact Rat.mul_inv_cancel _ (by grind)
  have e : sumI (fun k => (exT l p k p.length - mkRat 1 (2 ^ l.length)).abs * (exT l p k p.length - mkRat 1 (2 ^ l.length)).abs) (2 ^ l.length) = sumI (fun k => exT l p k p.length * exT l p k p.length) (2 ^ l.length) - 2 * mkRat 1 (2 ^ l.length) + ((2 ^ l.length : Nat) : Rat) * (mkRat 1 (2 ^ l.length) * mkRat 1 (2 ^ l.length)) := by
    rw [← sumI_const]
    have e2 : 2 * mkRat 1 (2 ^ l.length) = sumI (fun k => 2 * mkRat 1 (2 ^ l.length) * exT l p k p.length) (2 ^ l.length) := by rw [sumI_mul, ex_sum h hD l, Rat.mul_one]
    rw [e2, ← sumI_sub, ← sumI_add]
    exact sumI_congr fun k _ => by rw [abs_sq]; grind
  rw [e] at h1
  generalize sumI (fun k => exT l p k p.length * exT l p k p.length) (2 ^ l.length) = X at *
  generalize ((2 ^ l.length : Nat) : Rat) = S at *
  generalize mkRat 1 (2 ^ l.length) = c at *
  have e3 : S * (X - 2 * c + S * (c * c)) = S * X - 1 := by
    have : S * (X - 2 * c + S * (c * c)) = S * X - 2 * (S * c) + (S * c) * (S * c) := by grind
    rw [this, hc]; grind
  rw [e3] at h1
  exact h1
theorem ex_sq (l : List Nat) (p : List Rat) : sumI (fun k => exT l p k p.length * exT l p k p.length) (2 ^ l.length) = sumI (fun x => sumI (fun y => atL p x * atL p y * (if appR x l 0 0 = appR y l 0 0 then 1 else 0)) p.length) p.length := by
  have hA : ∀ x, appR x l 0 0 < 2 ^ l.length := fun x => by have := appR_lt x l 0 0 (by decide); rwa [Nat.zero_add] at this
  have e1 : ∀ k, exT l p k p.length * exT l p k p.length = sumI (fun x => if appR x l 0 0 = k then atL p x * exT l p (appR x l 0 0) p.length else 0) p.length := fun k => by
    conv => lhs; arg 1; unfold exT
    rw [← sumI_mulr]
    exact sumI_congr fun x _ => by
      by_cases hx : appR x l 0 0 = k
      · rw [if_pos hx, if_pos hx, hx]
      · rw [if_neg hx, if_neg hx, Rat.zero_mul]
  rw [sumI_congr fun k _ => e1 k, sumI_comm]
  exact sumI_congr fun x _ => by
    rw [sumI_pick (hA x), exT, ← sumI_mul]
    exact sumI_congr fun y _ => by
      by_cases hx : appR x l 0 0 = appR y l 0 0
      · rw [if_pos hx, if_pos hx.symm, Rat.mul_one]
      · rw [if_neg hx, if_neg (fun h => hx h.symm), Rat.mul_zero, Rat.mul_zero]
/-- The average distance, squared, against the collisions of a source. -/
theorem av_sq {N D n nb : Nat} {p : List Rat} (h : ChL N D p) (hN : N = 2 ^ nb) (hD : 0 < D) (b1 : 1 ≤ nb) (b3 : nb ≤ 3) (n1 : 1 ≤ n) (n2 : n ≤ 2) :
    4 * (avQ n nb p * avQ n nb p) ≤ sumI (fun x => atL p x * atL p x) N * (((2 ^ n : Nat) : Rat) - 1) := by
  have hP := natCast_pos (Nat.two_pow_pos (n * nb))
  have hpl : p.length = 2 ^ nb := by rw [h.len, hN]
  have u1 := fun z => un_sq h hD (rowsT nb z n)
  simp only [ex_sq] at u1
  simp only [rowsT_len] at u1
  have s1 := sumI_sq (fun z => 2 * unQ (rowsT nb z n) p) (2 ^ (n * nb))
  have s2 := sumI_le (n := 2 ^ (n * nb)) fun z _ => u1 z
  rw [sumI_sub, sumI_mul, sumI_const] at s2
  -- the sum over all lists of rows goes inside
  have e1 : ((2 ^ n : Nat) : Rat) * sumI (fun z => sumI (fun x => sumI (fun y => atL p x * atL p y * (if appR x (rowsT nb z n) 0 0 = appR y (rowsT nb z n) 0 0 then 1 else 0)) p.length) p.length) (2 ^ (n * nb)) = ((2 ^ (n * nb) : Nat) : Rat) * (sumI (fun x => atL p x * atL p x) N * (((2 ^ n : Nat) : Rat) - 1) + 1) := by
    have g1 : ∀ x, x < N → ((2 ^ n : Nat) : Rat) * sumI (fun z => sumI (fun y => atL p x * atL p y * hit nb n z x y) N) (2 ^ (n * nb)) = ((2 ^ (n * nb) : Nat) : Rat) * (atL p x * atL p x * (((2 ^ n : Nat) : Rat) - 1) + atL p x) := by
      intro x hx
      rw [sumI_comm, ← sumI_mul]
      have g2 : ∀ y, y < N → ((2 ^ n : Nat) : Rat) * sumI (fun z => atL p x * atL p y * hit nb n z x y) (2 ^ (n * nb)) = ((2 ^ (n * nb) : Nat) : Rat) * ((if x = y then atL p x * atL p x * (((2 ^ n : Nat) : Rat) - 1) else 0) + atL p x * atL p y) := by
        intro y hy
        have := hit_sum b1 b3 n1 n2 (hN ▸ hx) (hN ▸ hy)
        rw [sumI_mul, show ((2 ^ n : Nat) : Rat) * (atL p x * atL p y * sumI (fun z => hit nb n z x y) (2 ^ (n * nb))) = atL p x * atL p y * (((2 ^ n : Nat) : Rat) * sumI (fun z => hit nb n z x y) (2 ^ (n * nb))) by grind, this]
        by_cases hxy : x = y
        · subst hxy; rw [if_pos rfl, if_pos rfl]; grind
        · rw [if_neg hxy, if_neg hxy]; grind
      rw [sumI_congr g2, sumI_mul, sumI_add, sumI_pick hx, sumI_mul, h.sum, Rat.mul_one]
    rw [sumI_comm, ← sumI_mul, h.len]
    refine (sumI_congr fun x hx => g1 x hx).trans ?_
    rw [sumI_mul, sumI_add, sumI_mulr, h.sum]
  rw [e1] at s2
  have e2 : sumI (fun z => 2 * unQ (rowsT nb z n) p) (2 ^ (n * nb)) = 2 * (((2 ^ (n * nb) : Nat) : Rat) * avQ n nb p) := by
    rw [sumI_mul, av_eq, Rat.div_def]
    congr 1
    rw [Rat.mul_comm, Rat.mul_assoc, Rat.mul_comm _ (((2 ^ (n * nb) : Nat) : Rat)), Rat.mul_inv_cancel _ (by grind), Rat.mul_one]
  rw [e2] at s1
  generalize sumI (fun z => 2 * unQ (rowsT nb z n) p * (2 * unQ (rowsT nb z n) p)) (2 ^ (n * nb)) = V at *
  generalize avQ n nb p = A at *
  generalize sumI (fun x => atL p x * atL p x) N = C at *
  generalize ((2 ^ n : Nat) : Rat) = S at *
  generalize ((2 ^ (n * nb) : Nat) : Rat) = P at *
  have s3 : V ≤ P * (C * (S - 1)) := by grind
  have s4 := Rat.le_trans s1 (Rat.mul_le_mul_of_nonneg_left s3 (Rat.le_of_lt hP))
  have hi : 0 < P⁻¹ := Rat.inv_pos.2 hP
  have hpi : P * P⁻¹ = 1 := Rat.mul_inv_cancel _ (by grind)
  have s5 := Rat.mul_le_mul_of_nonneg_right s4 (Rat.le_of_lt (Rat.mul_pos hi hi))
  have e5 : 2 * (P * A) * (2 * (P * A)) * (P⁻¹ * P⁻¹) = 4 * (A * A) * ((P * P⁻¹) * (P * P⁻¹)) := by grind
  have e6 : P * (P * (C * (S - 1))) * (P⁻¹ * P⁻¹) = C * (S - 1) * ((P * P⁻¹) * (P * P⁻¹)) := by grind
  rw [e5, e6, hpi, Rat.one_mul, Rat.mul_one, Rat.mul_one] at s5
  exact s5

end Go.Proofs.YtkglajdhlmmlfaaGreat
