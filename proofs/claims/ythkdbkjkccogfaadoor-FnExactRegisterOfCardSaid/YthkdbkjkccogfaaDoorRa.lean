/- Contracts behind the law of registers of machines, laid out of the texts of the same hand. Nothing is claimed here; no condition. -/
import Derived.Test.YthkdbkjkccogfaaDoorHd
import Derived.Test.YthkdbkjkccogfaaDoorWx
import Derived.Test.YthkdbkjkccogfaaDoorAbsT
import Derived.Test.YthkdbkjkccogfaaDoorXq
set_option linter.unusedSimpArgs false
set_option linter.unusedVariables false
namespace Go.Proofs.YthkdbkjkccogfaaDoor
open Go Go.Abs
open Go.Abs
/-- A row of bytes that a slice shows whole. -/
def BRow (σ : St) (b : Nat) (l : List UInt8) : Prop := ∃ z o, σ.get b = some ⟨intsOf l, z, o⟩ ∧ ((z = 1 ∧ o = false) ∨ z = tagOf 5 1) ∧ b < σ.n
theorem BRow.push (σ : St) (l : List UInt8) : BRow (σ.push ⟨intsOf l, 1, false⟩) σ.n l := ⟨1, false, get_push_same, .inl ⟨rfl, rfl⟩, Nat.lt_succ_self _⟩
theorem BRow.lt {σ : St} {b : Nat} {l : List UInt8} (h : BRow σ b l) : b < σ.n := by obtain ⟨_, _, _, _, h⟩ := h; exact h
theorem BRow.keep {σ σ' : St} {b : Nat} {l : List UInt8} (h : BRow σ b l) (hn : σ.n ≤ σ'.n) (he : σ'.get b = σ.get b) : BRow σ' b l := by
  obtain ⟨z, o, h1, h2, h3⟩ := h; exact ⟨z, o, by rw [he]; exact h1, h2, by omega⟩
theorem intsOf_length : ∀ l : List UInt8, (intsOf l).length = l.length
  | [] => rfl
  | _ :: r => by simp [intsOf, intsOf_length r]
theorem intsOf_append : ∀ a b : List UInt8, intsOf (a ++ b) = intsOf a ++ intsOf b
  | [], _ => rfl
  | _ :: r, b => by simp [intsOf, intsOf_append r b]
theorem bytesOf_intsOf : ∀ l : List UInt8, bytesOf (intsOf l) = some l
  | [] => rfl
  | x :: r => by simp [intsOf, bytesOf, bytesOf_intsOf r]
theorem getCells_intsOf {l : List UInt8} {n : Nat} (h : n = l.length) : getCells (intsOf l) 0 n = some (intsOf l) := by
  subst h
  rw [getCells_eq, if_pos (by simp [intsOf_length]), List.drop_zero, List.take_of_length_le (by simp [intsOf_length])]
theorem tag_m : tagOf 5 1 % 7000000000 = 1 := by decide
theorem bappend {T : Tab} {σ : St} {b n : Nat} {l : List UInt8} {x : UInt8} {st : TypeId} (ht : T.ty st = some ⟨.slice 5, 1, 24, [.nilS]⟩) (he : T.ty 5 = some ⟨.int .u8, 1, 1, [.int .u8 0]⟩)
    (hb : BRow σ b l) (hn : n = l.length) (hs : n < 1000000000000) :
    ∃ σ', appendA T (σ.push ⟨[.int .u8 x.toNat], 1, false⟩) st st (.sl b 0 n n) (.sl σ.n 0 1 1) = some (.sl (σ.n + 1) 0 (n + 1) (n + 1), σ') ∧ BRow σ' (σ.n + 1) (l ++ [x]) ∧ σ'.n = σ.n + 2 ∧ (∃ o, σ'.get (σ.n + 1) = some ⟨intsOf (l ++ [x]), tagOf 5 1, o⟩) ∧ ∀ c, c ≠ b → c < σ.n → σ'.get c = σ.get c := by
  obtain ⟨z, o, hg0, hz, hbn⟩ := hb
  have hg : (σ.push ⟨[.int .u8 x.toNat], 1, false⟩).get b = some ⟨intsOf l, z, o⟩ := by rw [get_push_lt hbn]; exact hg0
  have h1 : firstA (σ.push ⟨[.int .u8 x.toNat], 1, false⟩) 1 1 (.sl σ.n 0 1 1) = some [.int .u8 x.toNat] := by
    simp [firstA, get_push_same, getCells, dropN, takeN]
  have hm : z % 7000000000 = 1 := by
    rcases hz with ⟨rfl, _⟩ | rfl
    · rfl
    · exact tag_m
  have hgr : growE ⟨.int .u8, 1, 1, [.int .u8 0]⟩ 5 ⟨intsOf l, z, o⟩ 0 = tagOf 5 1 := by
    unfold growE
    rcases hz with ⟨_, rfl⟩ | rfl
    · simp
    · simp
  have ha : appendA T (σ.push ⟨[.int .u8 x.toNat], 1, false⟩) st st (.sl b 0 n n) (.sl σ.n 0 1 1) =
      some (.sl (σ.n + 1) 0 (n + 1) (n + 1), (if o then (σ.push ⟨[.int .u8 x.toNat], 1, false⟩).del b else σ.push ⟨[.int .u8 x.toNat], 1, false⟩).push ⟨intsOf (l ++ [x]), tagOf 5 1, true⟩) := by
    unfold appendA
    simp only [ht, he, lenA, h1, allOne, AV.one, hg, Nat.mul_one, getCells_intsOf hn, intsOf_length]
    rw [if_neg (by simp), if_neg (by omega), if_pos ⟨by omega, by omega, hm, by omega, by omega⟩, hgr]
    cases o <;> simp [n_push, intsOf, intsOf_append]
  have hget : ∀ τ : St, τ.n = σ.n + 1 → (τ.push ⟨intsOf (l ++ [x]), tagOf 5 1, true⟩).get (σ.n + 1) = some ⟨intsOf (l ++ [x]), tagOf 5 1, true⟩ := fun τ h => by rw [← h]; exact get_push_same
  refine ⟨_, ha, ⟨tagOf 5 1, true, ?_, .inr rfl, ?_⟩, ?_, ⟨true, ?_⟩, ?_⟩
  · cases o <;> exact hget _ rfl
  · cases o <;> simp [n_push, n_del]
  · cases o <;> rfl
  · cases o <;> exact hget _ rfl
  · intro c hc hcn
    have hd : ∀ τ : St, τ.n = σ.n + 1 → (τ.push ⟨intsOf (l ++ [x]), tagOf 5 1, true⟩).get c = τ.get c := fun τ h => get_push_lt (by omega)
    cases o
    · simp only [Bool.false_eq_true, if_false]
      rw [hd _ rfl, get_push_lt hcn]
    · simp only [if_true]
      rw [hd _ rfl, get_del_ne (fun e => hc e.symm), get_push_lt hcn]
theorem bb1 (σ : St) (x : UInt8) : buildSliceA TT σ 32 1 [(0, .int .u8 x.toNat)] = some (.sl σ.n 0 1 1, σ.push ⟨[.int .u8 x.toNat], 1, false⟩) := by
  simp [buildSliceA, ty32, ty5, fillA, repeatCells, putCells, AV.cellsOf, allOne, AV.one]
theorem bb0 (σ : St) : buildSliceA TT σ 32 0 [] = some (.sl σ.n 0 0 0, σ.push ⟨intsOf [], 1, false⟩) := by
  simp [buildSliceA, ty32, ty5, fillA, repeatCells, intsOf]
theorem toStr {σ : St} {b n : Nat} {l : List UInt8} (h : BRow σ b l) (hn : n = l.length) : convA TT σ 32 9 (.sl b 0 n n) = some (.str l, σ) := by
  obtain ⟨z, o, hg, _, _⟩ := h
  simp [convA, ty32, ty9, ty5, lenA, firstA, hg, getCells_intsOf hn, bytesOf_intsOf]
/-- The letter of a bit. -/
def bb (p : Nat) : UInt8 := UInt8.ofNat (48 + p)
theorem bb_nat {p : Nat} (h : p < 2) : (bb p).toNat = 48 + p := by
  have : p = 0 ∨ p = 1 := by omega
  rcases this with rfl | rfl <;> rfl
theorem bb_conv {p : Nat} (h : p < 2) (σ : St) : convA TT σ 2 5 (.int .i64 (48 + (p : Int))) = some (.int .u8 ((bb p).toNat : Nat), σ) := by
  have : wrapA .u8 ((48 + p : Nat) : Int) = ((48 + p : Nat) : Int) := w_wrap .u8 (by simp only [topOf]; omega)
  rw [bb_nat h, ← this]
  simp [convA, ty2, ty5]
theorem bb_wrap {p : Nat} (h : p < 2) : wrapA .i64 (48 + (p : Int)) = 48 + (p : Int) := wrapA_id (by omega) (by omega)
def inR (n lo hi : Int) : Bool := decide (lo ≤ n) && decide (n ≤ hi)
theorem bs1 (σ : St) (x : Int) : buildSliceA TT σ 24 1 [(0, .int .i64 x)] = some (.sl σ.n 0 1 1, σ.push ⟨[.int .i64 x], 1, false⟩) := build_one ty24 ty2
theorem bn0 (σ : St) : buildSliceA TT σ 24 0 [] = some (.sl σ.n 0 0 0, σ.push ⟨ints [], 1, false⟩) := build_nil ty24 ty2
theorem mkI (σ : St) (n : Nat) (hn : n ≤ 17592186044416) : makeSliceA TT σ 24 (.int .i64 n) (.int .i64 n) = some (.sl σ.n 0 n n, σ.push ⟨ints (List.replicate n 0), 1, false⟩) := make_ints ty24 ty2 hn
theorem c69 (n lo hi : Int) (σ : St) : callI TT 69 [.int .i64 n, .int .i64 lo, .int .i64 hi] σ = some (.bool (inR n lo hi), σ) := by
  refine (FnV.mk (args' := [.int .i64 n, .int .i64 lo, .int .i64 hi]) fn69 rfl md69 ⟨⟨[], 0⟩, ?_⟩ (fun _ => rfl) rfl) σ _ rfl
  rw [fi69]
  by_cases h1 : lo ≤ n <;> simp [xI_seq, xI_region, xI_ret, regA, regOps, runOps, opStep, wantedA, opA, evo, evos, calleeA, lk, nif_eq, putE, paramsE, valS, val2, keepE, restrict, finA, resA, binA, binInt, ofConst, ofConst1, loadA, TK.isAgg, asVar, unA, builtinA, lenOpA, lenA, ileb_cast, ileb_eq, ieqb_dec, indexAddrA, inB_dec, evPairs, storeA, AV.cellsOf, pairsOf, xI_nil, binBool, gcE, evOpt, tagZ, inR, h1]

theorem c110 (n lo hi : Int) (σ : St) : callI TT 110 [.int .i64 n, .int .i64 lo, .int .i64 hi] σ = some (.bool (inR n lo hi), σ) := by
  refine (FnV.mk (args' := [.int .i64 n, .int .i64 lo, .int .i64 hi]) fn110 rfl md110 ⟨⟨[], 0⟩, ?_⟩ (fun _ => rfl) rfl) σ _ rfl
  rw [fi110]
  by_cases h1 : lo ≤ n <;> simp [xI_seq, xI_region, xI_ret, regA, regOps, runOps, opStep, wantedA, opA, evo, evos, calleeA, lk, nif_eq, putE, paramsE, valS, val2, keepE, restrict, finA, resA, binA, binInt, ofConst, ofConst1, loadA, TK.isAgg, asVar, unA, builtinA, lenOpA, lenA, ileb_cast, ileb_eq, ieqb_dec, indexAddrA, inB_dec, evPairs, storeA, AV.cellsOf, pairsOf, xI_nil, binBool, gcE, evOpt, tagZ, inR, h1]

theorem v93 (l : List Int) (n : Nat) : FnV TT 93 [.lst n (ints l)] (.int .i64 n) := by
  refine FnV.mk fn93 rfl md93 ⟨⟨[], 0⟩, ?_⟩ (fun _ => rfl) rfl
  rw [fi93]
  simp [xI_seq, xI_region, xI_ret, regA, regOps, runOps, opStep, wantedA, opA, evo, evos, calleeA, lk, nif_eq, putE, paramsE, valS, val2, keepE, restrict, finA, resA, binA, binInt, ofConst, ofConst1, loadA, TK.isAgg, asVar, unA, builtinA, lenOpA, lenA, ileb_cast, ileb_eq, ieqb_dec, indexAddrA, inB_dec, evPairs, storeA, AV.cellsOf, pairsOf, xI_nil, binBool, gcE, evOpt, tagZ, ty2, ty24]
noncomputable def b77 : Code := Tryd.f77.body.getD .skip
noncomputable def B77_0 : Code := (bodyC (bodyC (sndC (fstC (sndC (sndC b77))))))
noncomputable def K77_0 : List It := .lp B77_0 :: .blk 0 :: .code (sndC (sndC (sndC b77))) :: []
theorem xl77_0 {fi : FI} {env : Env} {σ : St} : exI TT fi K77_0 env σ = exI TT fi (.code B77_0 :: K77_0) env σ := by unfold K77_0; exact xI_lp
noncomputable def R77_0_0 : List It := .code (sndC (sndC (sndC b77))) :: []
theorem eK77_0_0 : exitA 0 K77_0 = some R77_0_0 := rfl
theorem l77 (l : List Int) (len : Nat) (hlen : len = l.length) (hs : len < 1000000000000) : ∀ (suf pre : List Int) (σ : St) (b : Nat) (z : List Int), l = pre ++ suf → z.length = suf.length → Row σ b (pre ++ z) →
    ∃ σ', exI TT (FI.of Tryd.f77 (TT.an 77)) K77_0 [(0, .lst len (ints l)), (3, .sl b 0 len len), (4, .int .i64 pre.length)] σ = some (.sl b 0 len len, σ') ∧ Row σ' b l := by
  intro suf
  induction suf with
  | nil =>
    intro pre σ b z hl hz hr
    have hz : z = [] := by simpa using hz
    subst hz
    have hl : l = pre := by simpa using hl
    subst hl
    refine ⟨σ, ?_, by simpa using hr⟩
    subst hlen
    rw [fi77]
    rw [xl77_0]
    simp only [B77_0, b77, Tryd.f77, Option.getD, fstC, sndC, bodyC, thnC, elsC]
    simp [xI_seq, xI_region, xI_ret, regA, regOps, runOps, opStep, wantedA, opA, evo, evos, calleeA, lk, nif_eq, putE, paramsE, valS, val2, keepE, restrict, finA, resA, binA, binInt, ofConst, ofConst1, loadA, TK.isAgg, asVar, unA, builtinA, lenOpA, lenA, ileb_cast, ileb_eq, ieqb_dec, indexAddrA, inB_dec, evPairs, storeA, AV.cellsOf, pairsOf, xI_nil, binBool, gcE, evOpt, tagZ, xI_block, xI_loopH, xI_condM, xI_exitM, xI_skip, xI_blk, exitA, ty2, ty3, ty24, eK77_0_0]
    simp only [R77_0_0, b77, Tryd.f77, Option.getD, fstC, sndC, bodyC, thnC, elsC]
    simp [xI_seq, xI_region, xI_ret, regA, regOps, runOps, opStep, wantedA, opA, evo, evos, calleeA, lk, nif_eq, putE, paramsE, valS, val2, keepE, restrict, finA, resA, binA, binInt, ofConst, ofConst1, loadA, TK.isAgg, asVar, unA, builtinA, lenOpA, lenA, ileb_cast, ileb_eq, ieqb_dec, indexAddrA, inB_dec, evPairs, storeA, AV.cellsOf, pairsOf, xI_nil, binBool, gcE, evOpt, tagZ, xI_block, xI_loopH, xI_condM, xI_exitM, xI_skip, xI_blk, exitA, ty2, ty3, ty24, eK77_0_0]
  | cons x suf ih =>
    intro pre σ b z hl hz hr
    obtain ⟨y, z, rfl⟩ : ∃ y z', z = y :: z' := by cases z with | nil => simp at hz | cons y z => exact ⟨y, z, rfl⟩
    have hg : l[pre.length]? = some x := by simp [hl]
    have hll : len = pre.length + (suf.length + 1) := by rw [hlen, hl]; simp
    obtain ⟨σ1, hst, hr1, hn1, _⟩ := store_row (i := pre.length) (x := x) hr (by simp)
    rw [set_app] at hr1
    obtain ⟨σ', h1, h2⟩ := ih (pre ++ [x]) σ1 b z (by simp [hl]) (by simpa using hz) (by simpa using hr1)
    refine ⟨σ', ?_, h2⟩
    have hlt : ¬ len ≤ pre.length := by omega
    have hlt2 : pre.length < len := by omega
    have hw := wrapS (n := pre.length) (by omega)
    rw [fi77] at h1 ⊢
    rw [xl77_0]
    simp only [B77_0, b77, Tryd.f77, Option.getD, fstC, sndC, bodyC, thnC, elsC]
    simp [xI_seq, xI_region, xI_ret, regA, regOps, runOps, opStep, wantedA, opA, evo, evos, calleeA, lk, nif_eq, putE, paramsE, valS, val2, keepE, restrict, finA, resA, binA, binInt, ofConst, ofConst1, loadA, TK.isAgg, asVar, unA, builtinA, lenOpA, lenA, ileb_cast, ileb_eq, ieqb_dec, indexAddrA, inB_dec, evPairs, storeA, AV.cellsOf, pairsOf, xI_nil, binBool, gcE, evOpt, tagZ, xI_block, xI_loopH, xI_condM, xI_exitM, xI_skip, xI_blk, exitA, ty2, ty3, ty24, eK77_0_0, hw, hlt, hlt2, lst_read hg, hst]
    simpa using h1
theorem s77 (l : List Int) (len : Nat) (hlen : len = l.length) (hs : len < 1000000000000) : FnS TT 77 [.lst len (ints l)] l := by
  obtain ⟨σ', h1, o, h2, _⟩ := l77 l len hlen hs l [] ((⟨[], 0⟩ : St).push ⟨ints (List.replicate len 0), 1, false⟩) 0 (List.replicate len 0) rfl (by simp [hlen]) Row.push
  refine FnS.mk fn77 rfl md77 ⟨σ', 0, o, ?_, h2⟩
  rw [← hlen, ← h1]
  have hm := mkI ⟨[], 0⟩ len (by omega)
  rw [fi77]
  simp [xI_seq, xI_region, xI_ret, regA, regOps, runOps, opStep, wantedA, opA, evo, evos, calleeA, lk, nif_eq, putE, paramsE, valS, val2, keepE, restrict, finA, resA, binA, binInt, ofConst, ofConst1, loadA, TK.isAgg, asVar, unA, builtinA, lenOpA, lenA, ileb_cast, ileb_eq, ieqb_dec, indexAddrA, inB_dec, evPairs, storeA, AV.cellsOf, pairsOf, xI_nil, binBool, gcE, evOpt, tagZ, xI_block, xI_loopH, xI_condM, xI_exitM, xI_skip, xI_blk, exitA, ty2, ty3, ty24, eK77_0_0, hm]
  rfl
noncomputable def b15 : Code := Tryd.f15.body.getD .skip
noncomputable def B15_0 : Code := (bodyC (bodyC (sndC (fstC (sndC (sndC b15))))))
noncomputable def K15_0 : List It := .lp B15_0 :: .blk 0 :: .code (sndC (sndC (sndC b15))) :: []
theorem xl15_0 {fi : FI} {env : Env} {σ : St} : exI TT fi K15_0 env σ = exI TT fi (.code B15_0 :: K15_0) env σ := by unfold K15_0; exact xI_lp
noncomputable def R15_0_0 : List It := .code (sndC (sndC (sndC b15))) :: []
theorem eK15_0_0 : exitA 0 K15_0 = some R15_0_0 := rfl
theorem l15 (a b : List Int) (len : Nat) (hlen : len = a.length) (hlen2 : len = b.length) (hs : len < 1000000000000) (σ : St) : ∀ (suf suf2 pre pre2 : List Int), a = pre ++ suf → b = pre2 ++ suf2 → pre.length = pre2.length →
    exI TT (FI.of Tryd.f15 (TT.an 15)) K15_0 [(0, .lst len (ints a)), (1, .lst len (ints b)), (5, .int .i64 pre.length)] σ = some (.bool (decide (suf = suf2)), σ) := by
  intro suf
  induction suf with
  | nil =>
    intro suf2 pre pre2 ha hb hp
    have h0 : suf2 = [] := by
      have := congrArg List.length ha; have := congrArg List.length hb; simp at *; cases suf2 with | nil => rfl | cons y z => simp at *; omega
    subst h0
    have hl : len = pre.length := by rw [hlen, ha]; simp
    subst hl
    rw [fi15]
    rw [xl15_0]
    simp only [B15_0, b15, Tryd.f15, Option.getD, fstC, sndC, bodyC, thnC, elsC]
    simp [xI_seq, xI_region, xI_ret, regA, regOps, runOps, opStep, wantedA, opA, evo, evos, calleeA, lk, nif_eq, putE, paramsE, valS, val2, keepE, restrict, finA, resA, binA, binInt, ofConst, ofConst1, loadA, TK.isAgg, asVar, unA, builtinA, lenOpA, lenA, ileb_cast, ileb_eq, ieqb_dec, indexAddrA, inB_dec, evPairs, storeA, AV.cellsOf, pairsOf, xI_nil, binBool, gcE, evOpt, tagZ, xI_block, xI_loopH, xI_condM, xI_exitM, xI_skip, xI_blk, exitA, ty2, ty3, ty24, eK15_0_0]
    simp only [R15_0_0, b15, Tryd.f15, Option.getD, fstC, sndC, bodyC, thnC, elsC]
    simp [xI_seq, xI_region, xI_ret, regA, regOps, runOps, opStep, wantedA, opA, evo, evos, calleeA, lk, nif_eq, putE, paramsE, valS, val2, keepE, restrict, finA, resA, binA, binInt, ofConst, ofConst1, loadA, TK.isAgg, asVar, unA, builtinA, lenOpA, lenA, ileb_cast, ileb_eq, ieqb_dec, indexAddrA, inB_dec, evPairs, storeA, AV.cellsOf, pairsOf, xI_nil, binBool, gcE, evOpt, tagZ, xI_block, xI_loopH, xI_condM, xI_exitM, xI_skip, xI_blk, exitA, ty2, ty3, ty24, eK15_0_0]
  | cons x suf ih =>
    intro suf2 pre pre2 ha hb hp
    obtain ⟨y, suf2, rfl⟩ : ∃ y z', suf2 = y :: z' := by
      cases suf2 with
      | nil => have := congrArg List.length ha; have := congrArg List.length hb; simp at *; omega
      | cons y z => exact ⟨y, z, rfl⟩
    have hg : a[pre.length]? = some x := by simp [ha]
    have hg2 : b[pre.length]? = some y := by simp [hb, hp]
    have hll : len = pre.length + (suf.length + 1) := by rw [hlen, ha]; simp
    have h1 := ih suf2 (pre ++ [x]) (pre2 ++ [y]) (by simp [ha]) (by simp [hb]) (by simp [hp])
    have hlt : ¬ len ≤ pre.length := by omega
    have hlt2 : pre.length < len := by omega
    have hw := wrapS (n := pre.length) (by omega)
    by_cases hxy : x = y
    · subst hxy
      rw [fi15] at h1 ⊢
      rw [xl15_0]
      simp only [B15_0, b15, Tryd.f15, Option.getD, fstC, sndC, bodyC, thnC, elsC]
      simp [xI_seq, xI_region, xI_ret, regA, regOps, runOps, opStep, wantedA, opA, evo, evos, calleeA, lk, nif_eq, putE, paramsE, valS, val2, keepE, restrict, finA, resA, binA, binInt, ofConst, ofConst1, loadA, TK.isAgg, asVar, unA, builtinA, lenOpA, lenA, ileb_cast, ileb_eq, ieqb_dec, indexAddrA, inB_dec, evPairs, storeA, AV.cellsOf, pairsOf, xI_nil, binBool, gcE, evOpt, tagZ, xI_block, xI_loopH, xI_condM, xI_exitM, xI_skip, xI_blk, exitA, ty2, ty3, ty24, eK15_0_0, hw, hlt, hlt2, lst_read hg, lst_read hg2]
      simpa using h1
    · rw [fi15]
      rw [xl15_0]
      simp only [B15_0, b15, Tryd.f15, Option.getD, fstC, sndC, bodyC, thnC, elsC]
      simp [xI_seq, xI_region, xI_ret, regA, regOps, runOps, opStep, wantedA, opA, evo, evos, calleeA, lk, nif_eq, putE, paramsE, valS, val2, keepE, restrict, finA, resA, binA, binInt, ofConst, ofConst1, loadA, TK.isAgg, asVar, unA, builtinA, lenOpA, lenA, ileb_cast, ileb_eq, ieqb_dec, indexAddrA, inB_dec, evPairs, storeA, AV.cellsOf, pairsOf, xI_nil, binBool, gcE, evOpt, tagZ, xI_block, xI_loopH, xI_condM, xI_exitM, xI_skip, xI_blk, exitA, ty2, ty3, ty24, eK15_0_0, hw, hlt, hlt2, lst_read hg, lst_read hg2, hxy]
theorem v15 (a b : List Int) (n m : Nat) (hn : n = a.length) (hm : m = b.length) (hs : n < 1000000000000) : FnV TT 15 [.lst n (ints a), .lst m (ints b)] (.bool (decide (a = b))) := by
  refine FnV.mk fn15 rfl md15 ⟨⟨[], 0⟩, ?_⟩ (fun _ => rfl) rfl
  by_cases hnm : n = m
  · subst hnm
    have h1 := l15 a b n hn hm hs ⟨[], 0⟩ a b [] [] rfl rfl rfl
    rw [fi15] at h1 ⊢
    simp [xI_seq, xI_region, xI_ret, regA, regOps, runOps, opStep, wantedA, opA, evo, evos, calleeA, lk, nif_eq, putE, paramsE, valS, val2, keepE, restrict, finA, resA, binA, binInt, ofConst, ofConst1, loadA, TK.isAgg, asVar, unA, builtinA, lenOpA, lenA, ileb_cast, ileb_eq, ieqb_dec, indexAddrA, inB_dec, evPairs, storeA, AV.cellsOf, pairsOf, xI_nil, binBool, gcE, evOpt, tagZ, xI_block, xI_loopH, xI_condM, xI_exitM, xI_skip, xI_blk, exitA, ty2, ty3, ty24, eK15_0_0]
    exact h1
  · have hab : a ≠ b := fun e => hnm (by rw [hn, hm, e])
    have hnm' : ¬ (n : Int) = m := by omega
    rw [fi15]
    simp [xI_seq, xI_region, xI_ret, regA, regOps, runOps, opStep, wantedA, opA, evo, evos, calleeA, lk, nif_eq, putE, paramsE, valS, val2, keepE, restrict, finA, resA, binA, binInt, ofConst, ofConst1, loadA, TK.isAgg, asVar, unA, builtinA, lenOpA, lenA, ileb_cast, ileb_eq, ieqb_dec, indexAddrA, inB_dec, evPairs, storeA, AV.cellsOf, pairsOf, xI_nil, binBool, gcE, evOpt, tagZ, xI_block, xI_loopH, xI_condM, xI_exitM, xI_skip, xI_blk, exitA, ty2, ty3, ty24, eK15_0_0, hnm, hnm', hab]
def allR (l : List Int) (lo hi : Int) : Bool := l.all fun n => inR n lo hi
theorem c134 (n lo hi : Int) (σ : St) (p q : Nat) (x y : Blk) (hp : σ.get p = some x) (hx : x.cells = [.int .i64 lo]) (hq : σ.get q = some y) (hy : y.cells = [.int .i64 hi]) : callI TT 134 [.int .i64 n, .ptr p 0, .ptr q 0] σ = some (.bool (!inR n lo hi), σ) := by
  rw [cI_0 fn134 rfl md134, fi134]
  simp [xI_seq, xI_region, xI_ret, regA, regOps, runOps, opStep, wantedA, opA, evo, evos, calleeA, lk, nif_eq, putE, paramsE, valS, val2, keepE, restrict, finA, resA, binA, binInt, ofConst, ofConst1, loadA, TK.isAgg, asVar, unA, builtinA, lenOpA, lenA, ileb_cast, ileb_eq, ieqb_dec, indexAddrA, inB_dec, evPairs, storeA, AV.cellsOf, pairsOf, xI_nil, binBool, gcE, evOpt, tagZ, xI_block, xI_loopH, xI_condM, xI_exitM, xI_skip, xI_blk, exitA, ty2, ty4, c69, cellsAt, hp, hx, hq, hy, getCells, takeN, dropN]

noncomputable def b163 : Code := Tryd.f163.body.getD .skip
noncomputable def B163_0 : Code := (bodyC (bodyC (sndC (fstC (sndC b163)))))
noncomputable def K163_0 : List It := .lp B163_0 :: .blk 0 :: .code (sndC (sndC b163)) :: []
theorem xl163_0 {fi : FI} {env : Env} {σ : St} : exI TT fi K163_0 env σ = exI TT fi (.code B163_0 :: K163_0) env σ := by unfold K163_0; exact xI_lp
noncomputable def R163_0_0 : List It := .code (sndC (sndC b163)) :: []
theorem eK163_0_0 : exitA 0 K163_0 = some R163_0_0 := rfl
theorem l163 (l : List Int) (len : Nat) (hlen : len = l.length) (hs : len < 3000000) (lo hi : Int) (σ : St) (p q : Nat) (x y : Blk) (hp : σ.get p = some x) (hx : x.cells = [.int .i64 lo]) (hq : σ.get q = some y) (hy : y.cells = [.int .i64 hi]) : ∀ (suf pre : List Int), l = pre ++ suf →
    ∃ r : Int, exI TT (FI.of Tryd.f163 (TT.an 163)) K163_0 [(0, .lst len (ints l)), (1, .fn 134 [] [.ptr p 0, .ptr q 0]), (7, .int .i64 len), (8, .int .i64 pre.length)] σ = some (.int .i64 r, σ) ∧ decide (0 ≤ r) = !allR suf lo hi := by
  intro suf
  induction suf with
  | nil =>
    intro pre hl
    refine ⟨-1, ?_, by simp [allR]⟩
    have hl : len = pre.length := by rw [hlen, hl]; simp
    subst hl
    rw [fi163]
    rw [xl163_0]
    simp only [B163_0, b163, Tryd.f163, Option.getD, fstC, sndC, bodyC, thnC, elsC]
    simp [xI_seq, xI_region, xI_ret, regA, regOps, runOps, opStep, wantedA, opA, evo, evos, calleeA, lk, nif_eq, putE, paramsE, valS, val2, keepE, restrict, finA, resA, binA, binInt, ofConst, ofConst1, loadA, TK.isAgg, asVar, unA, builtinA, lenOpA, lenA, ileb_cast, ileb_eq, ieqb_dec, indexAddrA, inB_dec, evPairs, storeA, AV.cellsOf, pairsOf, xI_nil, binBool, gcE, evOpt, tagZ, xI_block, xI_loopH, xI_condM, xI_exitM, xI_skip, xI_blk, exitA, ty2, ty3, ty24, eK163_0_0]
    simp only [R163_0_0, b163, Tryd.f163, Option.getD, fstC, sndC, bodyC, thnC, elsC]
    simp [xI_seq, xI_region, xI_ret, regA, regOps, runOps, opStep, wantedA, opA, evo, evos, calleeA, lk, nif_eq, putE, paramsE, valS, val2, keepE, restrict, finA, resA, binA, binInt, ofConst, ofConst1, loadA, TK.isAgg, asVar, unA, builtinA, lenOpA, lenA, ileb_cast, ileb_eq, ieqb_dec, indexAddrA, inB_dec, evPairs, storeA, AV.cellsOf, pairsOf, xI_nil, binBool, gcE, evOpt, tagZ, xI_block, xI_loopH, xI_condM, xI_exitM, xI_skip, xI_blk, exitA, ty2, ty3, ty24, eK163_0_0]
  | cons n suf ih =>
    intro pre hl
    have hll : len = pre.length + (suf.length + 1) := by rw [hlen, hl]; simp
    have hg : l[pre.length]? = some n := by simp [hl]
    obtain ⟨r, h1, h2⟩ := ih (pre ++ [n]) (by simp [hl])
    have hlt : ¬ len ≤ pre.length := by omega
    have hlt2 : pre.length < len := by omega
    have hw := wrapS (n := pre.length) (by omega)
    have hc := c134 n lo hi σ p q x y hp hx hq hy
    simp only [List.length_append, List.length_singleton] at h1
    cases hin : inR n lo hi with
    | true =>
      rw [hin] at hc
      refine ⟨r, ?_, by rw [h2]; simp [allR, hin]⟩
      rw [fi163] at h1 ⊢
      rw [xl163_0]
      simp only [B163_0, b163, Tryd.f163, Option.getD, fstC, sndC, bodyC, thnC, elsC]
      simp [xI_seq, xI_region, xI_ret, regA, regOps, runOps, opStep, wantedA, opA, evo, evos, calleeA, lk, nif_eq, putE, paramsE, valS, val2, keepE, restrict, finA, resA, binA, binInt, ofConst, ofConst1, loadA, TK.isAgg, asVar, unA, builtinA, lenOpA, lenA, ileb_cast, ileb_eq, ieqb_dec, indexAddrA, inB_dec, evPairs, storeA, AV.cellsOf, pairsOf, xI_nil, binBool, gcE, evOpt, tagZ, xI_block, xI_loopH, xI_condM, xI_exitM, xI_skip, xI_blk, exitA, ty2, ty3, ty24, eK163_0_0, hw, hlt, hlt2, lst_read hg, hc]
      simpa using h1
    | false =>
      rw [hin] at hc
      refine ⟨pre.length, ?_, by simp [allR, hin]⟩
      rw [fi163]
      rw [xl163_0]
      simp only [B163_0, b163, Tryd.f163, Option.getD, fstC, sndC, bodyC, thnC, elsC]
      simp [xI_seq, xI_region, xI_ret, regA, regOps, runOps, opStep, wantedA, opA, evo, evos, calleeA, lk, nif_eq, putE, paramsE, valS, val2, keepE, restrict, finA, resA, binA, binInt, ofConst, ofConst1, loadA, TK.isAgg, asVar, unA, builtinA, lenOpA, lenA, ileb_cast, ileb_eq, ieqb_dec, indexAddrA, inB_dec, evPairs, storeA, AV.cellsOf, pairsOf, xI_nil, binBool, gcE, evOpt, tagZ, xI_block, xI_loopH, xI_condM, xI_exitM, xI_skip, xI_blk, exitA, ty2, ty3, ty24, eK163_0_0, hw, hlt, hlt2, lst_read hg, hc]

theorem c133 (l : List Int) (len : Nat) (hlen : len = l.length) (hs : len < 3000000) (lo hi : Int) (σ : St) (p q : Nat) (x y : Blk) (hp : σ.get p = some x) (hx : x.cells = [.int .i64 lo]) (hq : σ.get q = some y) (hy : y.cells = [.int .i64 hi]) :
    callI TT 133 [.lst len (ints l), .fn 134 [] [.ptr p 0, .ptr q 0]] σ = some (.bool (!allR l lo hi), σ) := by
  obtain ⟨r, h1, h2⟩ := l163 l len hlen hs lo hi σ p q x y hp hx hq hy l [] rfl
  have hc : callI TT 163 [.lst len (ints l), .fn 134 [] [.ptr p 0, .ptr q 0]] σ = some (.int .i64 r, σ) := by
    rw [cI_0 fn163 rfl md163, ← h1, fi163]
    simp [xI_seq, xI_region, xI_ret, regA, regOps, runOps, opStep, wantedA, opA, evo, evos, calleeA, lk, nif_eq, putE, paramsE, valS, val2, keepE, restrict, finA, resA, binA, binInt, ofConst, ofConst1, loadA, TK.isAgg, asVar, unA, builtinA, lenOpA, lenA, ileb_cast, ileb_eq, ieqb_dec, indexAddrA, inB_dec, evPairs, storeA, AV.cellsOf, pairsOf, xI_nil, binBool, gcE, evOpt, tagZ, xI_block, xI_loopH, xI_condM, xI_exitM, xI_skip, xI_blk, exitA, ty2, ty3, ty24, eK163_0_0]
    rfl
  rw [cI_0 fn133 rfl md133, fi133]
  simp [xI_seq, xI_region, xI_ret, regA, regOps, runOps, opStep, wantedA, opA, evo, evos, calleeA, lk, nif_eq, putE, paramsE, valS, val2, keepE, restrict, finA, resA, binA, binInt, ofConst, ofConst1, loadA, TK.isAgg, asVar, unA, builtinA, lenOpA, lenA, ileb_cast, ileb_eq, ieqb_dec, indexAddrA, inB_dec, evPairs, storeA, AV.cellsOf, pairsOf, xI_nil, binBool, gcE, evOpt, tagZ, xI_block, xI_loopH, xI_condM, xI_exitM, xI_skip, xI_blk, exitA, ty3, hc, h2]

theorem v94 (l : List Int) (len : Nat) (hlen : len = l.length) (hs : len < 3000000) (lo hi : Int) : FnV TT 94 [.lst len (ints l), .int .i64 lo, .int .i64 hi] (.bool (allR l lo hi)) := by
  have h := c133 l len hlen hs lo hi (((⟨[], 0⟩ : St).push ⟨[.int .i64 lo], 1, false⟩).push ⟨[.int .i64 hi], 1, false⟩) 0 1 _ _ rfl rfl rfl rfl
  refine FnV.mk fn94 rfl md94 ⟨((⟨[], 0⟩ : St).push ⟨[.int .i64 lo], 1, false⟩).push ⟨[.int .i64 hi], 1, false⟩, ?_⟩ (fun _ => rfl) rfl
  rw [fi94]
  simp [xI_seq, xI_region, xI_ret, regA, regOps, runOps, opStep, wantedA, opA, evo, evos, calleeA, lk, nif_eq, putE, paramsE, valS, val2, keepE, restrict, finA, resA, binA, binInt, ofConst, ofConst1, loadA, TK.isAgg, asVar, unA, builtinA, lenOpA, lenA, ileb_cast, ileb_eq, ieqb_dec, indexAddrA, inB_dec, evPairs, storeA, AV.cellsOf, pairsOf, xI_nil, binBool, gcE, evOpt, tagZ, xI_block, xI_loopH, xI_condM, xI_exitM, xI_skip, xI_blk, exitA, ty2, ty4, h, allOne, AV.one, n_push]

theorem inR_iff {n lo hi : Int} : inR n lo hi = true ↔ lo ≤ n ∧ n ≤ hi := by simp [inR]
theorem allR_spec {l : List Int} {lo hi : Int} (h : allR l lo hi = true) : ∀ c ∈ l, lo ≤ c ∧ c ≤ hi := fun c hc => inR_iff.1 (List.all_eq_true.1 h c hc)
open Go.Wd
noncomputable def b112 : Code := Tryd.f112.body.getD .skip
noncomputable def B112_0 : Code := (bodyC (bodyC (fstC (sndC (sndC b112)))))
noncomputable def K112_0 : List It := .lp B112_0 :: .blk 0 :: .code (sndC (sndC (sndC b112))) :: []
theorem xl112_0 {fi : FI} {env : Env} {σ : St} : exI TT fi K112_0 env σ = exI TT fi (.code B112_0 :: K112_0) env σ := by unfold K112_0; exact xI_lp
noncomputable def R112_0_0 : List It := .code (sndC (sndC (sndC b112))) :: []
theorem eK112_0_0 : exitA 0 K112_0 = some R112_0_0 := rfl
theorem l112 (σ : St) : ∀ (k n out : Nat), n < 2 ^ k → k ≤ 63 → out < 2 →
    exI TT (FI.of Tryd.f112 (TT.an 112)) K112_0 [(0, .int .i64 n), (3, .int .i64 out)] σ = some (.int .i64 (xorN out (parF k n) : Nat), σ) := by
  intro k
  induction k with
  | zero =>
    intro n out hn hk ho
    obtain rfl : n = 0 := by simpa using hn
    have hx : xorN out (parF 0 0) = out := by simp [xorN, parF]
    rw [fi112]
    rw [xl112_0]
    simp only [B112_0, b112, Tryd.f112, Option.getD, fstC, sndC, bodyC, thnC, elsC]
    simp [xI_seq, xI_region, xI_ret, regA, regOps, runOps, opStep, wantedA, opA, evo, evos, calleeA, lk, nif_eq, putE, paramsE, valS, val2, keepE, restrict, finA, resA, binA, binInt, ofConst, ofConst1, loadA, TK.isAgg, asVar, unA, builtinA, lenOpA, lenA, ileb_cast, ileb_eq, ieqb_dec, indexAddrA, inB_dec, evPairs, storeA, AV.cellsOf, pairsOf, xI_nil, binBool, gcE, evOpt, tagZ, xI_block, xI_loopH, xI_condM, xI_exitM, xI_skip, xI_blk, exitA, ty2, eK112_0_0]
    simp only [R112_0_0, b112, Tryd.f112, Option.getD, fstC, sndC, bodyC, thnC, elsC]
    simp [xI_seq, xI_region, xI_ret, regA, regOps, runOps, opStep, wantedA, opA, evo, evos, calleeA, lk, nif_eq, putE, paramsE, valS, val2, keepE, restrict, finA, resA, binA, binInt, ofConst, ofConst1, loadA, TK.isAgg, asVar, unA, builtinA, lenOpA, lenA, ileb_cast, ileb_eq, ieqb_dec, indexAddrA, inB_dec, evPairs, storeA, AV.cellsOf, pairsOf, xI_nil, binBool, gcE, evOpt, tagZ, xI_block, xI_loopH, xI_condM, xI_exitM, xI_skip, xI_blk, exitA, ty2, eK112_0_0, hx]
  | succ k ih =>
    intro n out hn hk ho
    have h62 : 2 ^ (k + 1) ≤ 2 ^ 63 := Nat.pow_le_pow_right (by decide) hk
    have hn2 : n ≤ 9223372036854775807 := by omega
    by_cases h0 : n = 0
    · subst h0
      have hx : xorN out (parF (k + 1) 0) = out := by rw [parF_zero]; simp [xorN]
      rw [fi112]
      rw [xl112_0]
      simp only [B112_0, b112, Tryd.f112, Option.getD, fstC, sndC, bodyC, thnC, elsC]
      simp [xI_seq, xI_region, xI_ret, regA, regOps, runOps, opStep, wantedA, opA, evo, evos, calleeA, lk, nif_eq, putE, paramsE, valS, val2, keepE, restrict, finA, resA, binA, binInt, ofConst, ofConst1, loadA, TK.isAgg, asVar, unA, builtinA, lenOpA, lenA, ileb_cast, ileb_eq, ieqb_dec, indexAddrA, inB_dec, evPairs, storeA, AV.cellsOf, pairsOf, xI_nil, binBool, gcE, evOpt, tagZ, xI_block, xI_loopH, xI_condM, xI_exitM, xI_skip, xI_blk, exitA, ty2, eK112_0_0]
      simp only [R112_0_0, b112, Tryd.f112, Option.getD, fstC, sndC, bodyC, thnC, elsC]
      simp [xI_seq, xI_region, xI_ret, regA, regOps, runOps, opStep, wantedA, opA, evo, evos, calleeA, lk, nif_eq, putE, paramsE, valS, val2, keepE, restrict, finA, resA, binA, binInt, ofConst, ofConst1, loadA, TK.isAgg, asVar, unA, builtinA, lenOpA, lenA, ileb_cast, ileb_eq, ieqb_dec, indexAddrA, inB_dec, evPairs, storeA, AV.cellsOf, pairsOf, xI_nil, binBool, gcE, evOpt, tagZ, xI_block, xI_loopH, xI_condM, xI_exitM, xI_skip, xI_blk, exitA, ty2, eK112_0_0, hx]
    · have hm : modN n 2 < 2 := Nat.mod_lt _ (by decide)
      have hxl : xorN out (modN n 2) < 2 := Nat.xor_lt_two_pow (n := 1) ho hm
      have h1 := ih (shrN n 1) (xorN out (modN n 2)) (by show n / 2 ^ 1 < 2 ^ k; omega) (by omega) hxl
      have hx : xorN (xorN out (modN n 2)) (parF k (shrN n 1)) = xorN out (parF (k + 1) n) := by
        show (out ^^^ (n % 2)) ^^^ parF k (n / 2 ^ 1) = out ^^^ ((n % 2) ^^^ parF k (n / 2))
        rw [Nat.pow_one, Nat.xor_assoc]
      rw [hx] at h1
      have a1 := n_and1 hn2
      have a2 := n_xor (a := out) (b := modN n 2) (by omega) (by omega)
      have a3 : shrA (n : Int) (min 1 IntKind.i64.bits) = ((shrN n 1 : Nat) : Int) := rfl
      have hp : 0 < n := by omega
      rw [fi112] at h1 ⊢
      rw [xl112_0]
      simp only [B112_0, b112, Tryd.f112, Option.getD, fstC, sndC, bodyC, thnC, elsC]
      simp [xI_seq, xI_region, xI_ret, regA, regOps, runOps, opStep, wantedA, opA, evo, evos, calleeA, lk, nif_eq, putE, paramsE, valS, val2, keepE, restrict, finA, resA, binA, binInt, ofConst, ofConst1, loadA, TK.isAgg, asVar, unA, builtinA, lenOpA, lenA, ileb_cast, ileb_eq, ieqb_dec, indexAddrA, inB_dec, evPairs, storeA, AV.cellsOf, pairsOf, xI_nil, binBool, gcE, evOpt, tagZ, xI_block, xI_loopH, xI_condM, xI_exitM, xI_skip, xI_blk, exitA, ty2, eK112_0_0, a1, a2, a3, hp, h0]
      simpa using h1
theorem v112 (n : Nat) (hn : n < 2 ^ 63) : FnV TT 112 [.int .i64 n] (.int .i64 (par n : Nat)) := by
  refine FnV.mk fn112 rfl md112 ⟨⟨[], 0⟩, ?_⟩ (fun _ => rfl) rfl
  have h := l112 ⟨[], 0⟩ 63 n 0 hn (by decide) (by decide)
  rw [show xorN 0 (parF 63 n) = par n by rw [par_eq hn (by decide)]; simp [xorN]] at h
  rw [← h, fi112]
  simp [xI_seq, xI_region, xI_ret, regA, regOps, runOps, opStep, wantedA, opA, evo, evos, calleeA, lk, nif_eq, putE, paramsE, valS, val2, keepE, restrict, finA, resA, binA, binInt, ofConst, ofConst1, loadA, TK.isAgg, asVar, unA, builtinA, lenOpA, lenA, ileb_cast, ileb_eq, ieqb_dec, indexAddrA, inB_dec, evPairs, storeA, AV.cellsOf, pairsOf, xI_nil, binBool, gcE, evOpt, tagZ, xI_block, xI_loopH, xI_condM, xI_exitM, xI_skip, xI_blk, exitA, ty2, eK112_0_0]
  rfl

set_option maxHeartbeats 1000000 in
theorem v161 (x : Nat) (hx : x < 65536) : FnV TT 161 [.int .u64 x] (.int .i64 (pc x : Nat)) := by
  refine FnV.mk fn161 rfl md161 ⟨⟨[], 0⟩, ?_⟩ (fun _ => rfl) rfl
  obtain ⟨a, ha⟩ : ∃ a, a = addN (andN (shrN x 1) 6148914691236517205) (andN x 6148914691236517205) := ⟨_, rfl⟩
  obtain ⟨b, hb⟩ : ∃ b, b = addN (andN (shrN a 2) 3689348814741910323) (andN a 3689348814741910323) := ⟨_, rfl⟩
  obtain ⟨c, hc⟩ : ∃ c, c = andN (addN (shrN b 4) b) 1085102592571150095 := ⟨_, rfl⟩
  obtain ⟨d, hd⟩ : ∃ d, d = addN c (shrN c 8) := ⟨_, rfl⟩
  obtain ⟨e, he⟩ : ∃ e, e = addN d (shrN d 16) := ⟨_, rfl⟩
  obtain ⟨k, hk⟩ : ∃ k, k = addN e (shrN e 32) := ⟨_, rfl⟩
  have hpc : pc x = andN k 127 := by
    subst hk he hd hc hb ha; rfl
  have q1 : andN (shrN x 1) 6148914691236517205 ≤ x / 2 ^ 1 := Nat.and_le_left
  have q2 : andN x 6148914691236517205 ≤ x := Nat.and_le_left
  have ea : a = andN (shrN x 1) 6148914691236517205 + andN x 6148914691236517205 := ha
  have q3 : andN (shrN a 2) 3689348814741910323 ≤ a / 2 ^ 2 := Nat.and_le_left
  have q4 : andN a 3689348814741910323 ≤ a := Nat.and_le_left
  have eb : b = andN (shrN a 2) 3689348814741910323 + andN a 3689348814741910323 := hb
  have q5 : c ≤ addN (shrN b 4) b := by rw [hc]; exact Nat.and_le_left
  have q5' : addN (shrN b 4) b = b / 2 ^ 4 + b := rfl
  have q6 : d = c + c / 2 ^ 8 := hd
  have q7 : e = d + d / 2 ^ 16 := he
  have q8 : k = e + e / 2 ^ 32 := hk
  have a1 : shrA (x : Int) (min 1 IntKind.u64.bits) = ((shrN x 1 : Nat) : Int) := rfl
  have a2 : bitsA .and .u64 ((shrN x 1 : Nat) : Int) 6148914691236517205 = some (.int .u64 ((andN (shrN x 1) 6148914691236517205 : Nat) : Int)) := w_and .u64 (a := shrN x 1) (b := 6148914691236517205) (by show x / 2 ^ 1 ≤ _; simp only [topOf]; omega) (by decide)
  have a3 : bitsA .and .u64 (x : Int) 6148914691236517205 = some (.int .u64 ((andN x 6148914691236517205 : Nat) : Int)) := w_and .u64 (a := x) (b := 6148914691236517205) (by simp only [topOf]; omega) (by decide)
  have a4 : wrapA .u64 (((andN (shrN x 1) 6148914691236517205 : Nat) : Int) + ((andN x 6148914691236517205 : Nat) : Int)) = (a : Int) := by
    rw [ea, ← Int.natCast_add]; exact n_wrapu (by omega)
  have b1 : shrA (a : Int) (min 2 IntKind.u64.bits) = ((shrN a 2 : Nat) : Int) := rfl
  have b2 : bitsA .and .u64 ((shrN a 2 : Nat) : Int) 3689348814741910323 = some (.int .u64 ((andN (shrN a 2) 3689348814741910323 : Nat) : Int)) := w_and .u64 (a := shrN a 2) (b := 3689348814741910323) (by show a / 2 ^ 2 ≤ _; simp only [topOf]; omega) (by decide)
  have b3 : bitsA .and .u64 (a : Int) 3689348814741910323 = some (.int .u64 ((andN a 3689348814741910323 : Nat) : Int)) := w_and .u64 (a := a) (b := 3689348814741910323) (by simp only [topOf]; omega) (by decide)
  have b4 : wrapA .u64 (((andN (shrN a 2) 3689348814741910323 : Nat) : Int) + ((andN a 3689348814741910323 : Nat) : Int)) = (b : Int) := by
    rw [eb, ← Int.natCast_add]; exact n_wrapu (by omega)
  have c1 : shrA (b : Int) (min 4 IntKind.u64.bits) = ((shrN b 4 : Nat) : Int) := rfl
  have c2 : wrapA .u64 (((shrN b 4 : Nat) : Int) + (b : Int)) = ((addN (shrN b 4) b : Nat) : Int) := by
    rw [← Int.natCast_add]; exact n_wrapu (by show b / 2 ^ 4 + b ≤ _; omega)
  have c3 : bitsA .and .u64 ((addN (shrN b 4) b : Nat) : Int) 1085102592571150095 = some (.int .u64 (c : Int)) := by
    rw [hc]; exact w_and .u64 (a := addN (shrN b 4) b) (b := 1085102592571150095) (by rw [q5']; simp only [topOf]; omega) (by decide)
  have d1 : shrA (c : Int) (min 8 IntKind.u64.bits) = ((shrN c 8 : Nat) : Int) := rfl
  have d2 : wrapA .u64 ((c : Int) + ((shrN c 8 : Nat) : Int)) = (d : Int) := by
    rw [← Int.natCast_add, hd]; exact n_wrapu (by show c + c / 2 ^ 8 ≤ _; omega)
  have e1 : shrA (d : Int) (min 16 IntKind.u64.bits) = ((shrN d 16 : Nat) : Int) := rfl
  have e2 : wrapA .u64 ((d : Int) + ((shrN d 16 : Nat) : Int)) = (e : Int) := by
    rw [← Int.natCast_add, he]; exact n_wrapu (by show d + d / 2 ^ 16 ≤ _; omega)
  have k1 : shrA (e : Int) (min 32 IntKind.u64.bits) = ((shrN e 32 : Nat) : Int) := rfl
  have k2 : wrapA .u64 ((e : Int) + ((shrN e 32 : Nat) : Int)) = (k : Int) := by
    rw [← Int.natCast_add, hk]; exact n_wrapu (by show e + e / 2 ^ 32 ≤ _; omega)
  have k3 : wrapA .i64 (k : Int) = (k : Int) := n_wrap (by omega)
  have k4 : bitsA .and .i64 (k : Int) 127 = some (.int .i64 ((andN k 127 : Nat) : Int)) := w_and .i64 (a := k) (b := 127) (by simp only [topOf]; omega) (by decide)
  rw [hpc, fi161]
  clear ha hb hc hd he hk ea eb q5' q6 q7 q8
  simp [xI_seq, xI_region, xI_ret, regA, regOps, runOps, opStep, wantedA, opA, evo, evos, calleeA, lk, nif_eq, putE, paramsE, valS, val2, keepE, restrict, finA, resA, binA, binInt, ofConst, ofConst1, loadA, TK.isAgg, asVar, unA, builtinA, lenOpA, lenA, ileb_cast, ileb_eq, ieqb_dec, indexAddrA, inB_dec, evPairs, storeA, AV.cellsOf, pairsOf, xI_nil, binBool, gcE, evOpt, tagZ, xI_block, xI_loopH, xI_condM, xI_exitM, xI_skip, xI_blk, exitA, ty3, ty141, a1, a2, a3, a4, b1, b2, b3, b4, c1, c2, c3, d1, d2, e1, e2, k1, k2, k3, k4, convA]

theorem v126 (x : Nat) (hx : x < 65536) : FnV TT 126 [.int .i64 x] (.int .i64 (par x : Nat)) := by
  refine FnV.mk fn126 rfl md126 ⟨⟨[], 0⟩, ?_⟩ (fun _ => rfl) rfl
  have h1 : wrapA .u64 (x : Int) = (x : Int) := n_wrapu (by omega)
  have h2 : ∀ σ, callI TT 161 [.int .u64 x] σ = some (.int .i64 (pc x : Nat), σ) := fun σ => v161 x hx σ _ rfl
  have hb : pc x ≤ 127 := Nat.and_le_right
  have h3 : bitsA .and .i64 ((pc x : Nat) : Int) 1 = some (.int .i64 ((par x : Nat) : Int)) := by
    rw [← pc_par hx]; exact w_and .i64 (a := pc x) (b := 1) (by simp only [topOf]; omega) (by decide)
  rw [fi126]
  simp [xI_seq, xI_region, xI_ret, regA, regOps, runOps, opStep, wantedA, opA, evo, evos, calleeA, lk, nif_eq, putE, paramsE, valS, val2, keepE, restrict, finA, resA, binA, binInt, ofConst, ofConst1, loadA, TK.isAgg, asVar, unA, builtinA, lenOpA, lenA, ileb_cast, ileb_eq, ieqb_dec, indexAddrA, inB_dec, evPairs, storeA, AV.cellsOf, pairsOf, xI_nil, binBool, gcE, evOpt, tagZ, xI_block, xI_loopH, xI_condM, xI_exitM, xI_skip, xI_blk, exitA, ty2, ty3, ty141, h1, h2, h3, convA]
theorem c126 (x : Nat) (hx : x < 65536) (σ : St) : callI TT 126 [.int .i64 x] σ = some (.int .i64 (par x : Nat), σ) := v126 x hx σ _ rfl

open Go.Wd
theorem blt_dec (a b : Nat) : Nat.blt a b = decide (a < b) := by
  by_cases h : a < b
  · rw [decide_eq_true h]; unfold Nat.blt; rw [Nat.ble_eq]; exact h
  · rw [decide_eq_false h]
    cases hx : Nat.blt a b with
    | false => rfl
    | true => exact (h (Nat.le_of_ble_eq_true hx)).elim
theorem eqvs_ints : ∀ (l : List Int), eqvs (ints l) (ints l) = true
  | [] => rfl
  | x :: l => by rw [ints_cons]; simp [eqvs, AV.eqv, eqvs_ints l]
theorem pow_62 {r : Nat} (h : r < 65536) : r < 2 ^ 62 := Nat.lt_of_lt_of_le h (by decide)
theorem pw_16 {k : Nat} (h : k ≤ 16) : pw k ≤ 65536 := Nat.pow_le_pow_right (by decide) h
theorem pw_pos (k : Nat) : 1 ≤ pw k := Nat.one_le_two_pow
theorem pw_dec {k : Nat} (h : k ≤ 16) : wrapA .i64 (((pw k : Nat) : Int) - 1) = ((pw k : Nat) : Int) - 1 := by
  have := pw_16 h
  exact wrapA_id (by omega) (by omega)

theorem c111 (k : Nat) (hk : k ≤ 16) (n : Int) (σ : St) : callI TT 111 [.int .i64 k, .int .i64 n] σ = some (.bool (inR n 0 (((pw k : Nat) : Int) - 1)), σ) := by
  refine (FnV.mk (args' := [.int .i64 k, .int .i64 n]) fn111 rfl md111 ⟨⟨[], 0⟩, ?_⟩ (fun _ => rfl) rfl) σ _ rfl
  have h1 : wrapA .u64 (k : Int) = (k : Int) := n_wrapu (by omega)
  have h2 := sh_1 (b := k) (by omega)
  have h3 := pw_dec hk
  rw [fi111]
  simp [xI_seq, xI_region, xI_ret, regA, regOps, runOps, opStep, wantedA, opA, evo, evos, calleeA, lk, nif_eq, putE, paramsE, valS, val2, keepE, restrict, finA, resA, binA, binInt, ofConst, ofConst1, loadA, TK.isAgg, asVar, unA, builtinA, lenOpA, lenA, ileb_cast, ileb_eq, ieqb_dec, indexAddrA, inB_dec, evPairs, storeA, AV.cellsOf, pairsOf, xI_nil, binBool, gcE, evOpt, tagZ, xI_block, xI_loopH, xI_condM, xI_exitM, xI_skip, xI_blk, exitA, ty2, ty36, h1, h2, h3, convA, c110]

open Go.Wd
theorem c115 (q : Nat) (hq : q < 2) (σ : St) : callI TT 115 [.int .i64 q] σ = some (.int .u8 ((bb q).toNat : Nat), σ) := by
  refine (FnV.mk (args' := [.int .i64 q]) fn115 rfl md115 ⟨⟨[], 0⟩, ?_⟩ (fun _ => rfl) rfl) σ _ rfl
  have h1 := bb_conv hq ⟨[], 0⟩
  have h2 := bb_wrap hq
  rw [fi115]
  simp [xI_seq, xI_region, xI_ret, regA, regOps, runOps, opStep, wantedA, opA, evo, evos, calleeA, lk, nif_eq, putE, paramsE, valS, val2, keepE, restrict, finA, resA, binA, binInt, ofConst, ofConst1, loadA, TK.isAgg, asVar, unA, builtinA, lenOpA, lenA, ileb_cast, ileb_eq, ieqb_dec, indexAddrA, inB_dec, evPairs, storeA, AV.cellsOf, pairsOf, xI_nil, binBool, gcE, evOpt, tagZ, xI_block, xI_loopH, xI_condM, xI_exitM, xI_skip, xI_blk, exitA, ty2, ty5, h2, h1]

open Go.Wd
def zA : List AV := List.replicate 256 (.bool false)
theorem tyA : TT.ty 173 = some ⟨.array 256 4, 256, 256, zA⟩ := ty173
theorem tgA : tagZ 173 zA 256 = 256 := by kernel_rfl
theorem zA_len : zA.length = 256 := by rw [zA]; exact List.length_replicate

/-- Is a byte the letter of a bit? -/
def isBit (x : UInt8) : Bool := x == 48 || x == 49
def isBits (l : List UInt8) : Bool := decide (l.length ≤ 400) && l.all isBit
def setA : List AV := (List.range 256).map fun i => .bool (i == 48 || i == 49)
theorem setA_get {i : Nat} (h : i < 256) : getCells setA i 1 = some [.bool (i == 48 || i == 49)] := by
  rw [getCells_eq, if_pos (by simp [setA]; omega)]
  simp only [setA, ← List.map_drop, ← List.map_take]
  rw [List.drop_eq_getElem_cons (by simpa using h)]
  simp
theorem isBit_nat (x : UInt8) : isBit x = (x.toNat == 48 || x.toNat == 49) := by
  have h1 : (x == 48) = (x.toNat == 48) := by
    by_cases h : x = 48
    · subst h; rfl
    · have h9 : x.toNat ≠ 48 := fun e => h (UInt8.toNat_inj.1 e)
      rw [beq_false_of_ne h, beq_false_of_ne h9]
  have h2 : (x == 49) = (x.toNat == 49) := by
    by_cases h : x = 49
    · subst h; rfl
    · have h9 : x.toNat ≠ 49 := fun e => h (UInt8.toNat_inj.1 e)
      rw [beq_false_of_ne h, beq_false_of_ne h9]
  rw [isBit, h1, h2]
set_option maxRecDepth 100000 in
theorem r151 : FnV TT 151 [.str [48, 49]] (.tup [.agg setA, .bool true]) := FnV.mk fn151 rfl md151 (exI_of_exec (n := 1000) (by kernel_rfl)) (fun _ => rfl) (by kernel_rfl)

theorem c169 {σ : St} {b : Nat} {o : Bool} {z : Nat} (hb : σ.get b = some ⟨setA, z, o⟩) (x : UInt8) : callI TT 169 [.ptr b 0, .int .u8 x.toNat] σ = some (.bool (isBit x), σ) := by
  have hx := x.toNat_lt
  have h1 : x.toNat < 256 := by omega
  have h1i : (x.toNat : Int) < 256 := by omega
  have hc : cellsAt σ (.ptr b x.toNat) 1 = some [.bool (isBit x)] := by simp only [cellsAt, hb, setA_get h1, isBit_nat]
  rw [cI_0 fn169 rfl md169, fi169]
  simp [xI_seq, xI_region, xI_ret, regA, regOps, runOps, opStep, wantedA, opA, evo, evos, calleeA, lk, nif_eq, putE, paramsE, valS, val2, keepE, restrict, finA, resA, binA, binInt, ofConst, ofConst1, loadA, TK.isAgg, asVar, unA, builtinA, lenOpA, lenA, ileb_cast, ileb_eq, ieqb_dec, indexAddrA, inB_dec, evPairs, storeA, AV.cellsOf, pairsOf, xI_nil, binBool, gcE, evOpt, xI_block, xI_loopH, xI_condM, xI_exitM, xI_skip, xI_blk, exitA, ty4, indexAddrA, ty4, hc, h1, h1i, tyA, tgA]
theorem takeWhile_none {l : List UInt8} : l.dropWhile isBit = [] ↔ l.all isBit = true := by
  induction l with
  | nil => simp
  | cons x l ih => cases h : isBit x <;> simp [List.dropWhile_cons, h, ih]
theorem trim_none (l : List UInt8) : (((l.reverse.dropWhile isBit).reverse).dropWhile isBit == []) = l.all isBit := by
  have key : ((l.reverse.dropWhile isBit).reverse).dropWhile isBit = [] ↔ l.all isBit = true := by
    rw [takeWhile_none]
    constructor
    · intro h
      rw [List.all_reverse] at h
      have h2 : l.reverse.dropWhile isBit = [] := by
        cases hx : l.reverse.dropWhile isBit with
        | nil => rfl
        | cons y t =>
          have hy : isBit y = false := by
            have := List.head?_dropWhile_not isBit l.reverse
            rw [hx] at this
            simpa using this
          rw [hx] at h
          simp [hy] at h
      have h3 := takeWhile_none.1 h2
      rwa [List.all_reverse] at h3
    · intro h
      have h2 : l.reverse.dropWhile isBit = [] := takeWhile_none.2 (by rwa [List.all_reverse])
      rw [h2]; rfl
  rw [Bool.eq_iff_iff, beq_iff_eq]
  exact key

noncomputable def b152 : Code := Tryd.f152.body.getD .skip
noncomputable def B152_0 : Code := (bodyC (bodyC (fstC (sndC b152))))
noncomputable def K152_0 : List It := .lp B152_0 :: .blk 0 :: .code (sndC (sndC b152)) :: []
theorem xl152_0 {fi : FI} {env : Env} {σ : St} : exI TT fi K152_0 env σ = exI TT fi (.code B152_0 :: K152_0) env σ := by unfold K152_0; exact xI_lp
noncomputable def R152_0_0 : List It := .code (sndC (sndC b152)) :: []
theorem eK152_0_0 : exitA 0 K152_0 = some R152_0_0 := rfl
theorem l152 {σ : St} {b : Nat} {o : Bool} {z : Nat} (hb : σ.get b = some ⟨setA, z, o⟩) : ∀ l : List UInt8, l.length < 1000000 → exI TT (FI.of Tryd.f152 (TT.an 152)) K152_0 [(0, .str l), (1, .ptr b 0)] σ = some (.str (l.dropWhile isBit), σ) := by
  intro l
  induction l with
  | nil =>
    intro _
    rw [fi152]
    rw [xl152_0]
    simp only [B152_0, b152, Tryd.f152, Option.getD, fstC, sndC, bodyC, thnC, elsC]
    simp [xI_seq, xI_region, xI_ret, regA, regOps, runOps, opStep, wantedA, opA, evo, evos, calleeA, lk, nif_eq, putE, paramsE, valS, val2, keepE, restrict, finA, resA, binA, binInt, ofConst, ofConst1, loadA, TK.isAgg, asVar, unA, builtinA, lenOpA, lenA, ileb_cast, ileb_eq, ieqb_dec, indexAddrA, inB_dec, evPairs, storeA, AV.cellsOf, pairsOf, xI_nil, binBool, gcE, evOpt, tagZ, xI_block, xI_loopH, xI_condM, xI_exitM, xI_skip, xI_blk, exitA, ty3, ty4, ty9, eK152_0_0, ty9]
    simp only [R152_0_0, b152, Tryd.f152, Option.getD, fstC, sndC, bodyC, thnC, elsC]
    simp [xI_seq, xI_region, xI_ret, regA, regOps, runOps, opStep, wantedA, opA, evo, evos, calleeA, lk, nif_eq, putE, paramsE, valS, val2, keepE, restrict, finA, resA, binA, binInt, ofConst, ofConst1, loadA, TK.isAgg, asVar, unA, builtinA, lenOpA, lenA, ileb_cast, ileb_eq, ieqb_dec, indexAddrA, inB_dec, evPairs, storeA, AV.cellsOf, pairsOf, xI_nil, binBool, gcE, evOpt, tagZ, xI_block, xI_loopH, xI_condM, xI_exitM, xI_skip, xI_blk, exitA, ty3, ty4, ty9, eK152_0_0, ty9]
  | cons x l ih =>
    intro hl
    simp only [List.length_cons] at hl
    have hc := c169 hb x
    have hbd : (1 : Int) ≤ (l.length : Int) + 1 := by omega
    cases hx : isBit x with
    | false =>
      rw [hx] at hc
      rw [List.dropWhile_cons, if_neg (by simp [hx])]
      rw [fi152]
      rw [xl152_0]
      simp only [B152_0, b152, Tryd.f152, Option.getD, fstC, sndC, bodyC, thnC, elsC]
      simp [xI_seq, xI_region, xI_ret, regA, regOps, runOps, opStep, wantedA, opA, evo, evos, calleeA, lk, nif_eq, putE, paramsE, valS, val2, keepE, restrict, finA, resA, binA, binInt, ofConst, ofConst1, loadA, TK.isAgg, asVar, unA, builtinA, lenOpA, lenA, ileb_cast, ileb_eq, ieqb_dec, indexAddrA, inB_dec, evPairs, storeA, AV.cellsOf, pairsOf, xI_nil, binBool, gcE, evOpt, tagZ, xI_block, xI_loopH, xI_condM, xI_exitM, xI_skip, xI_blk, exitA, ty3, ty4, ty9, eK152_0_0, ty9, indexA, sliceA, boundA, hc, hbd]
      simp only [R152_0_0, b152, Tryd.f152, Option.getD, fstC, sndC, bodyC, thnC, elsC]
      simp [xI_seq, xI_region, xI_ret, regA, regOps, runOps, opStep, wantedA, opA, evo, evos, calleeA, lk, nif_eq, putE, paramsE, valS, val2, keepE, restrict, finA, resA, binA, binInt, ofConst, ofConst1, loadA, TK.isAgg, asVar, unA, builtinA, lenOpA, lenA, ileb_cast, ileb_eq, ieqb_dec, indexAddrA, inB_dec, evPairs, storeA, AV.cellsOf, pairsOf, xI_nil, binBool, gcE, evOpt, tagZ, xI_block, xI_loopH, xI_condM, xI_exitM, xI_skip, xI_blk, exitA, ty3, ty4, ty9, eK152_0_0, ty9, indexA, sliceA, boundA, hc, hbd]
    | true =>
      rw [hx] at hc
      have h1 := ih (by omega)
      rw [List.dropWhile_cons, if_pos hx]
      rw [fi152] at h1 ⊢
      rw [xl152_0]
      simp only [B152_0, b152, Tryd.f152, Option.getD, fstC, sndC, bodyC, thnC, elsC]
      simp [xI_seq, xI_region, xI_ret, regA, regOps, runOps, opStep, wantedA, opA, evo, evos, calleeA, lk, nif_eq, putE, paramsE, valS, val2, keepE, restrict, finA, resA, binA, binInt, ofConst, ofConst1, loadA, TK.isAgg, asVar, unA, builtinA, lenOpA, lenA, ileb_cast, ileb_eq, ieqb_dec, indexAddrA, inB_dec, evPairs, storeA, AV.cellsOf, pairsOf, xI_nil, binBool, gcE, evOpt, tagZ, xI_block, xI_loopH, xI_condM, xI_exitM, xI_skip, xI_blk, exitA, ty3, ty4, ty9, eK152_0_0, ty9, indexA, sliceA, boundA, hc, hbd]
      exact h1
theorem c152 {σ : St} {b : Nat} {o : Bool} {z : Nat} (hb : σ.get b = some ⟨setA, z, o⟩) (l : List UInt8) (hl : l.length < 1000000) : callI TT 152 [.str l, .ptr b 0] σ = some (.str (l.dropWhile isBit), σ) := by
  have h1 := l152 hb l hl
  rw [cI_0 fn152 rfl md152, fi152]
  rw [fi152] at h1
  simp [xI_seq, xI_region, xI_ret, regA, regOps, runOps, opStep, wantedA, opA, evo, evos, calleeA, lk, nif_eq, putE, paramsE, valS, val2, keepE, restrict, finA, resA, binA, binInt, ofConst, ofConst1, loadA, TK.isAgg, asVar, unA, builtinA, lenOpA, lenA, ileb_cast, ileb_eq, ieqb_dec, indexAddrA, inB_dec, evPairs, storeA, AV.cellsOf, pairsOf, xI_nil, binBool, gcE, evOpt, tagZ, xI_block, xI_loopH, xI_condM, xI_exitM, xI_skip, xI_blk, exitA, ty3, ty4, ty9, eK152_0_0]
  exact h1

noncomputable def b153 : Code := Tryd.f153.body.getD .skip
noncomputable def B153_0 : Code := (bodyC (bodyC (fstC (sndC b153))))
noncomputable def K153_0 : List It := .lp B153_0 :: .blk 0 :: .code (sndC (sndC b153)) :: []
theorem xl153_0 {fi : FI} {env : Env} {σ : St} : exI TT fi K153_0 env σ = exI TT fi (.code B153_0 :: K153_0) env σ := by unfold K153_0; exact xI_lp
noncomputable def R153_0_0 : List It := .code (sndC (sndC b153)) :: []
theorem eK153_0_0 : exitA 0 K153_0 = some R153_0_0 := rfl
theorem l153 {σ : St} {b : Nat} {o : Bool} {z : Nat} (hb : σ.get b = some ⟨setA, z, o⟩) : ∀ r : List UInt8, r.length < 1000000 → exI TT (FI.of Tryd.f153 (TT.an 153)) K153_0 [(0, .str r.reverse), (1, .ptr b 0)] σ = some (.str (r.dropWhile isBit).reverse, σ) := by
  intro r
  induction r with
  | nil =>
    intro _
    rw [fi153]
    rw [xl153_0]
    simp only [B153_0, b153, Tryd.f153, Option.getD, fstC, sndC, bodyC, thnC, elsC]
    simp [xI_seq, xI_region, xI_ret, regA, regOps, runOps, opStep, wantedA, opA, evo, evos, calleeA, lk, nif_eq, putE, paramsE, valS, val2, keepE, restrict, finA, resA, binA, binInt, ofConst, ofConst1, loadA, TK.isAgg, asVar, unA, builtinA, lenOpA, lenA, ileb_cast, ileb_eq, ieqb_dec, indexAddrA, inB_dec, evPairs, storeA, AV.cellsOf, pairsOf, xI_nil, binBool, gcE, evOpt, tagZ, xI_block, xI_loopH, xI_condM, xI_exitM, xI_skip, xI_blk, exitA, ty3, ty4, ty9, eK153_0_0, ty9]
    simp only [R153_0_0, b153, Tryd.f153, Option.getD, fstC, sndC, bodyC, thnC, elsC]
    simp [xI_seq, xI_region, xI_ret, regA, regOps, runOps, opStep, wantedA, opA, evo, evos, calleeA, lk, nif_eq, putE, paramsE, valS, val2, keepE, restrict, finA, resA, binA, binInt, ofConst, ofConst1, loadA, TK.isAgg, asVar, unA, builtinA, lenOpA, lenA, ileb_cast, ileb_eq, ieqb_dec, indexAddrA, inB_dec, evPairs, storeA, AV.cellsOf, pairsOf, xI_nil, binBool, gcE, evOpt, tagZ, xI_block, xI_loopH, xI_condM, xI_exitM, xI_skip, xI_blk, exitA, ty3, ty4, ty9, eK153_0_0, ty9]
  | cons x r ih =>
    intro hl
    simp only [List.length_cons] at hl
    have hc := c169 hb x
    have hw : wrapA .i64 (((r.length : Nat) : Int) + 1 - 1) = ((r.length : Nat) : Int) := by rw [wrapA_id (by omega) (by omega)]; omega
    have hw2 : wrapA .i64 ((r.length : Nat) : Int) = ((r.length : Nat) : Int) := wrapA_id (by omega) (by omega)
    have hbd : ((r.length : Nat) : Int) ≤ (r.length : Int) + 1 := by omega
    have hn : ¬ ((r.length : Int) + 1 ≤ 0) := by omega
    have hget : (r.reverse ++ [x])[r.length]? = some x := by rw [List.getElem?_append_right (by simp)]; simp
    have htk : (r.reverse ++ [x]).take r.length = r.reverse := by rw [List.take_append_of_le_length (by simp)]; exact List.take_of_length_le (by simp)
    cases hx : isBit x with
    | false =>
      rw [hx] at hc
      rw [List.dropWhile_cons, if_neg (by simp [hx]), List.reverse_cons]
      rw [fi153]
      rw [xl153_0]
      simp only [B153_0, b153, Tryd.f153, Option.getD, fstC, sndC, bodyC, thnC, elsC]
      simp [xI_seq, xI_region, xI_ret, regA, regOps, runOps, opStep, wantedA, opA, evo, evos, calleeA, lk, nif_eq, putE, paramsE, valS, val2, keepE, restrict, finA, resA, binA, binInt, ofConst, ofConst1, loadA, TK.isAgg, asVar, unA, builtinA, lenOpA, lenA, ileb_cast, ileb_eq, ieqb_dec, indexAddrA, inB_dec, evPairs, storeA, AV.cellsOf, pairsOf, xI_nil, binBool, gcE, evOpt, tagZ, xI_block, xI_loopH, xI_condM, xI_exitM, xI_skip, xI_blk, exitA, ty3, ty4, ty9, eK153_0_0, ty9, indexA, sliceA, boundA, hc, hw, hw2, hn, hget, htk, hbd]
      simp only [R153_0_0, b153, Tryd.f153, Option.getD, fstC, sndC, bodyC, thnC, elsC]
      simp [xI_seq, xI_region, xI_ret, regA, regOps, runOps, opStep, wantedA, opA, evo, evos, calleeA, lk, nif_eq, putE, paramsE, valS, val2, keepE, restrict, finA, resA, binA, binInt, ofConst, ofConst1, loadA, TK.isAgg, asVar, unA, builtinA, lenOpA, lenA, ileb_cast, ileb_eq, ieqb_dec, indexAddrA, inB_dec, evPairs, storeA, AV.cellsOf, pairsOf, xI_nil, binBool, gcE, evOpt, tagZ, xI_block, xI_loopH, xI_condM, xI_exitM, xI_skip, xI_blk, exitA, ty3, ty4, ty9, eK153_0_0, ty9, indexA, sliceA, boundA, hc, hw, hw2, hn, hget, htk, hbd]
    | true =>
      rw [hx] at hc
      have h1 := ih (by omega)
      rw [List.dropWhile_cons, if_pos hx, List.reverse_cons]
      rw [fi153] at h1 ⊢
      rw [xl153_0]
      simp only [B153_0, b153, Tryd.f153, Option.getD, fstC, sndC, bodyC, thnC, elsC]
      simp [xI_seq, xI_region, xI_ret, regA, regOps, runOps, opStep, wantedA, opA, evo, evos, calleeA, lk, nif_eq, putE, paramsE, valS, val2, keepE, restrict, finA, resA, binA, binInt, ofConst, ofConst1, loadA, TK.isAgg, asVar, unA, builtinA, lenOpA, lenA, ileb_cast, ileb_eq, ieqb_dec, indexAddrA, inB_dec, evPairs, storeA, AV.cellsOf, pairsOf, xI_nil, binBool, gcE, evOpt, tagZ, xI_block, xI_loopH, xI_condM, xI_exitM, xI_skip, xI_blk, exitA, ty3, ty4, ty9, eK153_0_0, ty9, indexA, sliceA, boundA, hc, hw, hw2, hn, hget, htk, hbd]
      exact h1
theorem c153 {σ : St} {b : Nat} {o : Bool} {z : Nat} (hb : σ.get b = some ⟨setA, z, o⟩) (l : List UInt8) (hl : l.length < 1000000) : callI TT 153 [.str l, .ptr b 0] σ = some (.str (l.reverse.dropWhile isBit).reverse, σ) := by
  have h1 := l153 hb l.reverse (by simpa using hl)
  rw [List.reverse_reverse] at h1
  rw [cI_0 fn153 rfl md153, fi153]
  rw [fi153] at h1
  simp [xI_seq, xI_region, xI_ret, regA, regOps, runOps, opStep, wantedA, opA, evo, evos, calleeA, lk, nif_eq, putE, paramsE, valS, val2, keepE, restrict, finA, resA, binA, binInt, ofConst, ofConst1, loadA, TK.isAgg, asVar, unA, builtinA, lenOpA, lenA, ileb_cast, ileb_eq, ieqb_dec, indexAddrA, inB_dec, evPairs, storeA, AV.cellsOf, pairsOf, xI_nil, binBool, gcE, evOpt, tagZ, xI_block, xI_loopH, xI_condM, xI_exitM, xI_skip, xI_blk, exitA, ty3, ty4, ty9, eK153_0_0]
  exact h1

theorem setA_one : allOne setA = true := by kernel_rfl
theorem setA_len : setA.length = 256 := by simp [setA]
theorem k113 (l r : List UInt8) (z0 : List AV) (σ1 : St) (hl : ¬ l = []) (c1 : ∀ σ, callI TT 151 [.str [48, 49]] σ = some (.tup [.agg setA, .bool true], σ)) (s1 : storeCellsA ((⟨[], 0⟩ : St).push ⟨zA, 256, false⟩) 0 0 setA = some σ1) (c2 : callI TT 153 [.str l, .ptr 0 0] σ1 = some (.str r, σ1)) (r2 : List UInt8) (c3 : callI TT 152 [.str r, .ptr 0 0] σ1 = some (.str r2, σ1)) :
    exI TT (FI.of Tryd.f113 (TT.an 113)) [.code (Tryd.f113.body.getD .skip)] (paramsE 0 [.str l, .str [48, 49]]) ⟨[], 0⟩ = some (.str r2, σ1) := by
  have hz : (l == ([] : List UInt8)) = false := by simpa using hl
  have hlen := setA_len
  rw [fi113]
  simp only [Tryd.f113, Option.getD]
  simp [xI_seq, xI_region, xI_ret, regA, regOps, runOps, opStep, wantedA, opA, evo, evos, calleeA, lk, nif_eq, putE, paramsE, valS, val2, keepE, restrict, finA, resA, binA, binInt, ofConst, ofConst1, loadA, TK.isAgg, asVar, unA, builtinA, lenOpA, lenA, ileb_cast, ileb_eq, ieqb_dec, indexAddrA, inB_dec, evPairs, storeA, AV.cellsOf, pairsOf, xI_nil, binBool, gcE, evOpt, xI_block, xI_loopH, xI_condM, xI_exitM, xI_skip, xI_blk, exitA, ty3, ty5, ty9, runTr, pairsOk, pairOk, lstAt, lastOf, sameVal, AV.eqv, eqvs, eqvs_ints, regOps, blt_dec, cond_true, cond_false, allOne, AV.one, n_push, ty9, ty4, binStr, indexA, hz, hl, hlen, c1, s1, c2, c3, tyA, tgA]
theorem k113n : exI TT (FI.of Tryd.f113 (TT.an 113)) [.code (Tryd.f113.body.getD .skip)] (paramsE 0 [.str [], .str [48, 49]]) ⟨[], 0⟩ = some (.str [], ⟨[], 0⟩) := by
  rw [fi113]
  simp only [Tryd.f113, Option.getD]
  simp [xI_seq, xI_region, xI_ret, regA, regOps, runOps, opStep, wantedA, opA, evo, evos, calleeA, lk, nif_eq, putE, paramsE, valS, val2, keepE, restrict, finA, resA, binA, binInt, ofConst, ofConst1, loadA, TK.isAgg, asVar, unA, builtinA, lenOpA, lenA, ileb_cast, ileb_eq, ieqb_dec, indexAddrA, inB_dec, evPairs, storeA, AV.cellsOf, pairsOf, xI_nil, binBool, gcE, evOpt, xI_block, xI_loopH, xI_condM, xI_exitM, xI_skip, xI_blk, exitA, ty3, ty5, ty9, runTr, pairsOk, pairOk, lstAt, lastOf, sameVal, AV.eqv, eqvs, eqvs_ints, regOps, blt_dec, cond_true, cond_false, ty9, binStr, tyA, tgA]
theorem v113 (l : List UInt8) (hl : l.length < 1000000) : FnV TT 113 [.str l, .str [48, 49]] (.str (((l.reverse.dropWhile isBit).reverse).dropWhile isBit)) := by
  by_cases h0 : l = []
  · subst h0
    exact FnV.mk (c := Tryd.f113.body.getD .skip) fn113 rfl md113 ⟨⟨[], 0⟩, k113n⟩ (fun _ => rfl) rfl
  · have hg0 : ((⟨[], 0⟩ : St).push ⟨zA, 256, false⟩).get 0 = some ⟨zA, 256, false⟩ := rfl
    have s1 : storeCellsA ((⟨[], 0⟩ : St).push ⟨zA, 256, false⟩) 0 0 setA = some (((⟨[], 0⟩ : St).push ⟨zA, 256, false⟩).set 0 ⟨setA, 256, false⟩) := by
      rw [storeCellsA_eq, hg0]
      simp only
      rw [if_pos ⟨by rw [setA_len, zA_len]; decide, setA_one⟩]
      have hput : putCells zA 0 setA = setA := by rw [putCells, List.take_zero, List.nil_append, List.drop_of_length_le (by rw [setA_len, zA_len]; decide), List.append_nil]
      rw [hput]
    have hg1 : (((⟨[], 0⟩ : St).push ⟨zA, 256, false⟩).set 0 ⟨setA, 256, false⟩).get 0 = some ⟨setA, 256, false⟩ := get_set_eq hg0
    have hlen2 : ((l.reverse.dropWhile isBit).reverse).length < 1000000 := by
      have := (List.dropWhile_sublist isBit (l := l.reverse)).length_le
      simp at this ⊢
      omega
    exact FnV.mk (c := Tryd.f113.body.getD .skip) fn113 rfl md113 ⟨_, k113 l _ [] _ h0 (fun σ => r151 σ _ rfl) s1 (c153 hg1 l hl) _ (c152 hg1 _ hlen2)⟩ (fun _ => rfl) rfl

theorem v63 (l : List UInt8) (hl : l.length ≤ 9223372036854775807) : FnV TT 63 [.str l] (.bool (isBits l)) := by
  refine FnV.mk fn63 rfl md63 ⟨⟨[], 0⟩, ?_⟩ (fun _ => rfl) rfl
  rw [fi63]
  by_cases h : l.length ≤ 400
  · have hc : callI TT 113 [.str l, .str [48, 49]] ⟨[], 0⟩ = some (.str (((l.reverse.dropWhile isBit).reverse).dropWhile isBit), ⟨[], 0⟩) := v113 l (by omega) _ _ rfl
    have ht := trim_none l
    have h' : (l.length : Int) ≤ 400 := by omega
    simp [xI_seq, xI_region, xI_ret, regA, regOps, runOps, opStep, wantedA, opA, evo, evos, calleeA, lk, nif_eq, putE, paramsE, valS, val2, keepE, restrict, finA, resA, binA, binInt, ofConst, ofConst1, loadA, TK.isAgg, asVar, unA, builtinA, lenOpA, lenA, ileb_cast, ileb_eq, ieqb_dec, indexAddrA, inB_dec, evPairs, storeA, AV.cellsOf, pairsOf, xI_nil, binBool, gcE, evOpt, tagZ, xI_block, xI_loopH, xI_condM, xI_exitM, xI_skip, xI_blk, exitA, ty3, ty9, ty9, binStr, hc, h, h']
    simp only [isBits, h, decide_true, Bool.true_and]
    rw [← ht]
    simp
  · have h' : ¬ (l.length : Int) ≤ 400 := by omega
    simp [xI_seq, xI_region, xI_ret, regA, regOps, runOps, opStep, wantedA, opA, evo, evos, calleeA, lk, nif_eq, putE, paramsE, valS, val2, keepE, restrict, finA, resA, binA, binInt, ofConst, ofConst1, loadA, TK.isAgg, asVar, unA, builtinA, lenOpA, lenA, ileb_cast, ileb_eq, ieqb_dec, indexAddrA, inB_dec, evPairs, storeA, AV.cellsOf, pairsOf, xI_nil, binBool, gcE, evOpt, tagZ, xI_block, xI_loopH, xI_condM, xI_exitM, xI_skip, xI_blk, exitA, ty3, ty9, ty9, binStr, h, h']
    simp [isBits, h]
noncomputable def b60 : Code := Tryd.f60.body.getD .skip
noncomputable def B60_0 : Code := (bodyC (bodyC (sndC (fstC (sndC b60)))))
noncomputable def K60_0 : List It := .lp B60_0 :: .blk 0 :: .code (sndC (sndC b60)) :: []
theorem xl60_0 {fi : FI} {env : Env} {σ : St} : exI TT fi K60_0 env σ = exI TT fi (.code B60_0 :: K60_0) env σ := by unfold K60_0; exact xI_lp
noncomputable def R60_0_0 : List It := .code (sndC (sndC b60)) :: []
theorem eK60_0_0 : exitA 0 K60_0 = some R60_0_0 := rfl
theorem l60 (σ : St) : ∀ (suf pre : List UInt8), (pre ++ suf).length < 1000000000 → exI TT (FI.of Tryd.f60 (TT.an 60)) K60_0 [(0, .str (pre ++ suf)), (3, .int .i64 pre.length)] σ = some (.bool (suf.all isBit && decide ((pre ++ suf).length ≤ 400)), σ) := by
  intro suf
  induction suf with
  | nil =>
    intro pre hl
    simp only [List.append_nil] at hl ⊢
    have hd : decide ((pre.length : Int) ≤ 400) = decide (pre.length ≤ 400) := by simp; omega
    rw [fi60]
    rw [xl60_0]
    simp only [B60_0, b60, Tryd.f60, Option.getD, fstC, sndC, bodyC, thnC, elsC]
    simp [xI_seq, xI_region, xI_ret, regA, regOps, runOps, opStep, wantedA, opA, evo, evos, calleeA, lk, nif_eq, putE, paramsE, valS, val2, keepE, restrict, finA, resA, binA, binInt, ofConst, ofConst1, loadA, TK.isAgg, asVar, unA, builtinA, lenOpA, lenA, ileb_cast, ileb_eq, ieqb_dec, indexAddrA, inB_dec, evPairs, storeA, AV.cellsOf, pairsOf, xI_nil, binBool, gcE, evOpt, tagZ, xI_block, xI_loopH, xI_condM, xI_exitM, xI_skip, xI_blk, exitA, ty3, ty5, ty9, eK60_0_0, ty9]
    simp only [R60_0_0, b60, Tryd.f60, Option.getD, fstC, sndC, bodyC, thnC, elsC]
    simp [xI_seq, xI_region, xI_ret, regA, regOps, runOps, opStep, wantedA, opA, evo, evos, calleeA, lk, nif_eq, putE, paramsE, valS, val2, keepE, restrict, finA, resA, binA, binInt, ofConst, ofConst1, loadA, TK.isAgg, asVar, unA, builtinA, lenOpA, lenA, ileb_cast, ileb_eq, ieqb_dec, indexAddrA, inB_dec, evPairs, storeA, AV.cellsOf, pairsOf, xI_nil, binBool, gcE, evOpt, tagZ, xI_block, xI_loopH, xI_condM, xI_exitM, xI_skip, xI_blk, exitA, ty3, ty5, ty9, eK60_0_0, ty9]
    omega
  | cons x suf ih =>
    intro pre hl
    have h1 := ih (pre ++ [x]) (by simpa using hl)
    simp only [List.append_assoc, List.singleton_append, List.length_append, List.length_singleton, List.length_cons] at h1 hl
    have hget : (pre ++ x :: suf)[pre.length]? = some x := by simp
    have hlt : (pre.length : Int) < ((pre.length : Int) + ((suf.length : Int) + 1)) := by omega
    have hle : ¬ pre.length + (suf.length + 1) ≤ pre.length := by omega
    have hw := wrapS (n := pre.length) (by omega)
    have hb := isBit_nat x
    have hx := x.toNat_lt
    by_cases h48 : x.toNat = 48
    · have hbt : isBit x = true := by rw [hb, h48]; rfl
      have h48' : (x.toNat : Int) = 48 := by omega
      rw [fi60] at h1 ⊢
      rw [xl60_0]
      simp only [B60_0, b60, Tryd.f60, Option.getD, fstC, sndC, bodyC, thnC, elsC]
      simp [xI_seq, xI_region, xI_ret, regA, regOps, runOps, opStep, wantedA, opA, evo, evos, calleeA, lk, nif_eq, putE, paramsE, valS, val2, keepE, restrict, finA, resA, binA, binInt, ofConst, ofConst1, loadA, TK.isAgg, asVar, unA, builtinA, lenOpA, lenA, ileb_cast, ileb_eq, ieqb_dec, indexAddrA, inB_dec, evPairs, storeA, AV.cellsOf, pairsOf, xI_nil, binBool, gcE, evOpt, tagZ, xI_block, xI_loopH, xI_condM, xI_exitM, xI_skip, xI_blk, exitA, ty3, ty5, ty9, eK60_0_0, ty9, indexA, hget, hlt, hle, hw, h48, h48']
      rw [hbt]
      simpa using h1
    · by_cases h49 : x.toNat = 49
      · have hbt : isBit x = true := by rw [hb, h49]; rfl
        have h49' : (x.toNat : Int) = 49 := by omega
        have h48' : ¬ (x.toNat : Int) = 48 := by omega
        rw [fi60] at h1 ⊢
        rw [xl60_0]
        simp only [B60_0, b60, Tryd.f60, Option.getD, fstC, sndC, bodyC, thnC, elsC]
        simp [xI_seq, xI_region, xI_ret, regA, regOps, runOps, opStep, wantedA, opA, evo, evos, calleeA, lk, nif_eq, putE, paramsE, valS, val2, keepE, restrict, finA, resA, binA, binInt, ofConst, ofConst1, loadA, TK.isAgg, asVar, unA, builtinA, lenOpA, lenA, ileb_cast, ileb_eq, ieqb_dec, indexAddrA, inB_dec, evPairs, storeA, AV.cellsOf, pairsOf, xI_nil, binBool, gcE, evOpt, tagZ, xI_block, xI_loopH, xI_condM, xI_exitM, xI_skip, xI_blk, exitA, ty3, ty5, ty9, eK60_0_0, ty9, indexA, hget, hlt, hle, hw, h48, h48', h49, h49']
        rw [hbt]
        simpa using h1
      · have hbt : isBit x = false := by rw [hb]; simp [h48, h49]
        have h49' : ¬ (x.toNat : Int) = 49 := by omega
        have h48' : ¬ (x.toNat : Int) = 48 := by omega
        rw [fi60]
        rw [xl60_0]
        simp only [B60_0, b60, Tryd.f60, Option.getD, fstC, sndC, bodyC, thnC, elsC]
        simp [xI_seq, xI_region, xI_ret, regA, regOps, runOps, opStep, wantedA, opA, evo, evos, calleeA, lk, nif_eq, putE, paramsE, valS, val2, keepE, restrict, finA, resA, binA, binInt, ofConst, ofConst1, loadA, TK.isAgg, asVar, unA, builtinA, lenOpA, lenA, ileb_cast, ileb_eq, ieqb_dec, indexAddrA, inB_dec, evPairs, storeA, AV.cellsOf, pairsOf, xI_nil, binBool, gcE, evOpt, tagZ, xI_block, xI_loopH, xI_condM, xI_exitM, xI_skip, xI_blk, exitA, ty3, ty5, ty9, eK60_0_0, ty9, indexA, hget, hlt, hle, hw, h48, h48', h49, h49']
        rw [hbt]
        simp
theorem v60 (l : List UInt8) (hl : l.length < 1000000000) : FnV TT 60 [.str l] (.bool (isBits l)) := by
  refine FnV.mk fn60 rfl md60 ⟨⟨[], 0⟩, ?_⟩ (fun _ => rfl) rfl
  have h := l60 ⟨[], 0⟩ l [] (by simpa using hl)
  rw [show isBits l = (l.all isBit && decide (([] ++ l).length ≤ 400)) by rw [isBits, Bool.and_comm]; rfl, ← h, fi60]
  simp [xI_seq, xI_region, xI_ret, regA, regOps, runOps, opStep, wantedA, opA, evo, evos, calleeA, lk, nif_eq, putE, paramsE, valS, val2, keepE, restrict, finA, resA, binA, binInt, ofConst, ofConst1, loadA, TK.isAgg, asVar, unA, builtinA, lenOpA, lenA, ileb_cast, ileb_eq, ieqb_dec, indexAddrA, inB_dec, evPairs, storeA, AV.cellsOf, pairsOf, xI_nil, binBool, gcE, evOpt, tagZ, xI_block, xI_loopH, xI_condM, xI_exitM, xI_skip, xI_blk, exitA, ty3, ty5, ty9, eK60_0_0]
  rfl

open Go.Wd
theorem isBit_at {l : List UInt8} (h : l.all isBit = true) {i : Nat} {x : UInt8} (hx : l[i]? = some x) : x.toNat = 48 ∨ x.toNat = 49 := by
  have := List.all_eq_true.1 h x (List.mem_of_getElem? hx)
  rw [isBit_nat] at this
  simpa using this
theorem get_at {l : List UInt8} {i : Nat} (h : i < l.length) : ∃ x, l[i]? = some x := ⟨_, List.getElem?_eq_getElem h⟩
theorem bsI1 (σ : St) (x : Int) : buildSliceA TT σ 24 1 [(0, .int .i64 x)] = some (.sl σ.n 0 1 1, σ.push ⟨[.int .i64 x], 1, false⟩) := build_one ty24 ty2
theorem bsI0 (σ : St) : buildSliceA TT σ 24 0 [] = some (.sl σ.n 0 0 0, σ.push ⟨ints [], 1, false⟩) := build_nil ty24 ty2
theorem max_len {n : Nat} (h : n ≤ maxLen) : n ≤ 9223372036854775807 := by simpa [maxLen] using h
end Go.Proofs.YthkdbkjkccogfaaDoor
