/- Contracts and laws: bits that machines output. Nothing is claimed here; no condition. -/
import Derived.Test.YtonnbgjbohbibaaEi
namespace Go.Proofs.Ytonnbgjbohbibaa
open Go Go.Abs
set_option linter.unusedSimpArgs false
set_option linter.unusedVariables false
open Go.Wd
/-- A row of bytes that a slice shows whole. -/
def BRow (σ : St) (b : Nat) (l : List UInt8) : Prop := ∃ o, σ.get b = some ⟨intsOf l, 1, o⟩ ∧ b < σ.n
theorem intsOf_length : ∀ l : List UInt8, (intsOf l).length = l.length
  | [] => rfl
  | _ :: r => by simp [intsOf, intsOf_length r]
theorem intsOf_append : ∀ a b : List UInt8, intsOf (a ++ b) = intsOf a ++ intsOf b
  | [], _ => rfl
  | _ :: r, b => by simp [intsOf, intsOf_append r b]
theorem bytesOf_intsOf : ∀ l : List UInt8, bytesOf (intsOf l) = some l
  | [] => rfl
  | x :: r => by simp [intsOf, bytesOf, bytesOf_intsOf r]
theorem getCells_intsOf {l : List UInt8} {n : Nat} (h : n = l.length) : getCells (intsOf l) 0 n = some (intsOf l) := by
  subst h
  rw [getCells_eq, if_pos (by simp [intsOf_length]), List.drop_zero, List.take_of_length_le (by simp [intsOf_length])]
theorem bappend_one {T : Tab} {σ : St} {b n : Nat} {l : List UInt8} {o : Bool} {x : UInt8} {st e : TypeId} (ht : T.ty st = some ⟨.slice e, 1, 24, [.nilS]⟩) (he : T.ty e = some ⟨.int .u8, 1, 1, [.int .u8 0]⟩)
    (hb : σ.get b = some ⟨intsOf l, 1, o⟩) (hbn : b < σ.n) (hn : n = l.length) (hs : n < 1000000000000) :
    appendA T (σ.push ⟨[.int .u8 x.toNat], 1, false⟩) st st (.sl b 0 n n) (.sl σ.n 0 1 1) =
      some (.sl (σ.n + 1) 0 (n + 1) (n + 1), (if o then (σ.push ⟨[.int .u8 x.toNat], 1, false⟩).del b else σ.push ⟨[.int .u8 x.toNat], 1, false⟩).push ⟨intsOf (l ++ [x]), 1, true⟩) := by
  unfold appendA
  have h1 : firstA (σ.push ⟨[.int .u8 x.toNat], 1, false⟩) 1 1 (.sl σ.n 0 1 1) = some [.int .u8 x.toNat] := by
    simp [firstA, get_push_same, getCells, dropN, takeN]
  have hg : (σ.push ⟨[.int .u8 x.toNat], 1, false⟩).get b = some ⟨intsOf l, 1, o⟩ := by rw [get_push_lt hbn]; exact hb
  simp only [ht, he, lenA, h1, allOne, AV.one, hg, Nat.mul_one, getCells_intsOf hn, intsOf_length]
  rw [if_neg (by simp), if_neg (by omega), if_pos ⟨by omega, by omega, trivial, by omega, by omega⟩]
  cases o <;> simp [n_push, intsOf, intsOf_append]
theorem bappend {T : Tab} {σ : St} {b n : Nat} {l : List UInt8} {x : UInt8} {st e : TypeId} (ht : T.ty st = some ⟨.slice e, 1, 24, [.nilS]⟩) (he : T.ty e = some ⟨.int .u8, 1, 1, [.int .u8 0]⟩)
    (hb : BRow σ b l) (hn : n = l.length) (hs : n < 1000000000000) :
    ∃ σ', appendA T (σ.push ⟨[.int .u8 x.toNat], 1, false⟩) st st (.sl b 0 n n) (.sl σ.n 0 1 1) = some (.sl (σ.n + 1) 0 (n + 1) (n + 1), σ') ∧ BRow σ' (σ.n + 1) (l ++ [x]) ∧ σ'.n = σ.n + 2 ∧ ∀ c, c ≠ b → c < σ.n → σ'.get c = σ.get c := by
  obtain ⟨o, hg, hlt⟩ := hb
  refine ⟨_, bappend_one ht he hg hlt hn hs, ?_, ?_, ?_⟩
  · refine ⟨true, ?_, ?_⟩
    · cases o <;> exact get_push_same
    · cases o <;> simp [n_push, n_del]
  · cases o <;> rfl
  · intro c hc hcn
    have hd : ∀ τ : St, τ.n = σ.n + 1 → (τ.push ⟨intsOf (l ++ [x]), 1, true⟩).get c = τ.get c := fun τ h => get_push_lt (by omega)
    cases o
    · simp only [Bool.false_eq_true, if_false]
      rw [hd _ rfl, get_push_lt hcn]
    · simp only [if_true]
      rw [hd _ rfl, get_del_ne (fun e => hc e.symm), get_push_lt hcn]

theorem bb1 (σ : St) (x : UInt8) : buildSliceA TT σ 29 1 [(0, .int .u8 x.toNat)] = some (.sl σ.n 0 1 1, σ.push ⟨[.int .u8 x.toNat], 1, false⟩) := by
  simp [buildSliceA, ty29, ty5, fillA, repeatCells, putCells, AV.cellsOf, allOne, AV.one]
theorem bb0 (σ : St) : buildSliceA TT σ 29 0 [] = some (.sl σ.n 0 0 0, σ.push ⟨intsOf [], 1, false⟩) := by
  simp [buildSliceA, ty29, ty5, fillA, repeatCells, intsOf]
theorem toStr {σ : St} {b n : Nat} {l : List UInt8} (h : BRow σ b l) (hn : n = l.length) : convA TT σ 29 9 (.sl b 0 n n) = some (.str l, σ) := by
  obtain ⟨o, hg, _⟩ := h
  simp [convA, ty29, ty9, ty5, lenA, firstA, hg, getCells_intsOf hn, bytesOf_intsOf]
/-- The letter of a bit. -/
def bb (p : Nat) : UInt8 := UInt8.ofNat (48 + p)
theorem bb_nat {p : Nat} (h : p < 2) : (bb p).toNat = 48 + p := by
  have : p = 0 ∨ p = 1 := by omega
  rcases this with rfl | rfl <;> rfl
theorem bb_conv {p : Nat} (h : p < 2) (σ : St) : convA TT σ 2 5 (.int .i64 (48 + (p : Int))) = some (.int .u8 ((bb p).toNat : Nat), σ) := by
  have : wrapA .u8 ((48 + p : Nat) : Int) = ((48 + p : Nat) : Int) := w_wrap .u8 (by simp only [topOf]; omega)
  rw [bb_nat h, ← this]
  simp [convA, ty2, ty5]
theorem bb_wrap {p : Nat} (h : p < 2) : wrapA .i64 (48 + (p : Int)) = 48 + (p : Int) := wrapA_id (by omega) (by omega)
/-- The first outputs. -/
def outB (A : List Nat) (k : Nat) : Nat → Nat → List UInt8
  | 0, _ => []
  | m + 1, t => bb (par (andN k t)) :: outB A k m (app A t)
theorem outB_length (A : List Nat) (k : Nat) : ∀ m t, (outB A k m t).length = m
  | 0, _ => rfl
  | m + 1, t => by simp [outB, outB_length A k m]
theorem bsne (s : List UInt8) : binStr .neq s s = some (.bool false) := by simp [binStr]
def lbOk (w : Int) (R : List Int) (o s n : Int) : Bool := vst w R o s && inR n 0 400
def lbV (w : Int) (R : List Int) (o s n : Int) : List UInt8 := if lbOk w R o s n = true then outB (nats R) o.toNat n.toNat s.toNat else []
theorem lbV_no {w : Int} {R : List Int} {o s n : Int} (h : lbOk w R o s n = false) : lbV w R o s n = [] := by simp [lbV, h]
theorem lbV_yes {A : List Nat} {k t n : Nat} (h : lbOk (A.length : Int) (nints A) k t n = true) : lbV (A.length : Int) (nints A) k t n = outB A k n t := by simp [lbV, h, nats_nints]

theorem c132 (q : Nat) (hq : q < 2) (σ : St) : callI TT 132 [.int .i64 q] σ = some (.int .u8 ((bb q).toNat : Nat), σ) := by
  refine (FnV.mk (args' := [.int .i64 q]) fn132 rfl md132 ⟨⟨[], 0⟩, ?_⟩ (fun _ => rfl) rfl) σ _ rfl
  have h1 := bb_conv hq ⟨[], 0⟩
  have h2 := bb_wrap hq
  rw [fi132]
  simp [xI_seq, xI_region, xI_ret, regA, regOps, runOps, opStep, wantedA, opA, evo, evos, calleeA, lk, nif_eq, putE, paramsE, valS, val2, keepE, restrict, finA, resA, binA, binInt, ofConst, ofConst1, loadA, TK.isAgg, asVar, unA, builtinA, lenOpA, lenA, ileb_cast, ileb_eq, ieqb_dec, indexAddrA, inB_dec, evPairs, storeA, AV.cellsOf, pairsOf, xI_nil, binBool, gcE, evOpt, xI_block, xI_loopH, xI_condM, xI_exitM, xI_skip, xI_blk, exitA, ty2, ty5, h2, h1]

noncomputable def b101 : Code := Try.f101.body.getD .skip
noncomputable def B101_0 : Code := (bodyC (bodyC (sndC (fstC (sndC (sndC b101))))))
noncomputable def K101_0 : List It := .lp B101_0 :: .blk 0 :: .code (sndC (sndC (sndC b101))) :: []
theorem xl101_0 {fi : FI} {env : Env} {σ : St} : exI TT fi K101_0 env σ = exI TT fi (.code B101_0 :: K101_0) env σ := by unfold K101_0; exact xI_lp
noncomputable def R101_0_0 : List It := .code (sndC (sndC (sndC b101))) :: []
theorem eK101_0_0 : exitA 0 K101_0 = some R101_0_0 := rfl
theorem l101 (A : List Nat) (k c : Nat) (h16 : A.length ≤ 16) (hA : ∀ r ∈ A, r < 65536) (hk : k < 65536) (hc : c ≤ 400) (p : Nat) (x : Blk) (hx : x.cells = lin A.length (nints A) k) : ∀ (m t : Nat) (l : List UInt8) (σ : St) (b : Nat), l.length + m = c → t < 65536 → σ.get p = some x → p < b → BRow σ b l →
    ∃ σ', exI TT (FI.of Try.f101 (TT.an 101)) K101_0 [(0, .ptr p 0), (1, .int .i64 t), (2, .int .i64 c), (7, .sl b 0 l.length l.length), (8, .int .i64 l.length)] σ = some (.str (l ++ outB A k m t), σ') := by
  intro m
  induction m with
  | zero =>
    intro t l σ b hl ht hp hpb hr
    obtain rfl : c = l.length := by omega
    have hs := toStr hr rfl
    refine ⟨σ, ?_⟩
    rw [fi101]
    rw [xl101_0]
    simp only [B101_0, b101, Try.f101, Option.getD, fstC, sndC, bodyC, thnC, elsC]
    simp [xI_seq, xI_region, xI_ret, regA, regOps, runOps, opStep, wantedA, opA, evo, evos, calleeA, lk, nif_eq, putE, paramsE, valS, val2, keepE, restrict, finA, resA, binA, binInt, ofConst, ofConst1, loadA, TK.isAgg, asVar, unA, builtinA, lenOpA, lenA, ileb_cast, ileb_eq, ieqb_dec, indexAddrA, inB_dec, evPairs, storeA, AV.cellsOf, pairsOf, xI_nil, binBool, gcE, evOpt, xI_block, xI_loopH, xI_condM, xI_exitM, xI_skip, xI_blk, exitA, ty2, ty5, ty9, ty29, eK101_0_0]
    simp only [R101_0_0, b101, Try.f101, Option.getD, fstC, sndC, bodyC, thnC, elsC]
    simp [xI_seq, xI_region, xI_ret, regA, regOps, runOps, opStep, wantedA, opA, evo, evos, calleeA, lk, nif_eq, putE, paramsE, valS, val2, keepE, restrict, finA, resA, binA, binInt, ofConst, ofConst1, loadA, TK.isAgg, asVar, unA, builtinA, lenOpA, lenA, ileb_cast, ileb_eq, ieqb_dec, indexAddrA, inB_dec, evPairs, storeA, AV.cellsOf, pairsOf, xI_nil, binBool, gcE, evOpt, xI_block, xI_loopH, xI_condM, xI_exitM, xI_skip, xI_blk, exitA, ty2, ty5, ty9, ty29, eK101_0_0, hs, outB]
  | succ m ih =>
    intro t l σ b hl ht hp hpb hr
    have hpl := par_lt (andN k t)
    have hx2 := hx
    rw [lin_eq] at hx2
    obtain ⟨σ1, ha, hr1, hn1, ho1⟩ := bappend (x := bb (par (andN k t))) ty29 ty5 hr rfl (by omega)
    have hbn : b < σ.n := by obtain ⟨_, _, h⟩ := hr; exact h
    have hp1 : σ1.get p = some x := (ho1 p (by omega) (by omega)).trans hp
    have hc1 := c97 A k t h16 hA hk ht σ p x hp hx
    have hc2 := bb_wrap hpl
    have hc3 : ∀ σ, convA TT σ 2 5 (.int .i64 (48 + ((par (andN k t) : Nat) : Int))) = some (.int .u8 ((bb (par (andN k t))).toNat : Nat), σ) := bb_conv hpl
    obtain ⟨σ', h1⟩ := ih (app A t) (l ++ [bb (par (andN k t))]) σ1 (σ.n + 1) (by simp; omega) (app_16 h16 t) hp1 (by omega) hr1
    refine ⟨σ', ?_⟩
    rw [show l ++ outB A k (m + 1) t = l ++ [bb (par (andN k t))] ++ outB A k m (app A t) by simp [outB]]
    simp only [List.length_append, List.length_singleton] at h1
    have hlt : ¬ c ≤ l.length := by omega
    have hlt2 : l.length < c := by omega
    have hw := wrapS (n := l.length) (by omega)
    rw [fi101] at h1 ⊢
    rw [xl101_0]
    simp only [B101_0, b101, Try.f101, Option.getD, fstC, sndC, bodyC, thnC, elsC]
    simp [xI_seq, xI_region, xI_ret, regA, regOps, runOps, opStep, wantedA, opA, evo, evos, calleeA, lk, nif_eq, putE, paramsE, valS, val2, keepE, restrict, finA, resA, binA, binInt, ofConst, ofConst1, loadA, TK.isAgg, asVar, unA, builtinA, lenOpA, lenA, ileb_cast, ileb_eq, ieqb_dec, indexAddrA, inB_dec, evPairs, storeA, AV.cellsOf, pairsOf, xI_nil, binBool, gcE, evOpt, xI_block, xI_loopH, xI_condM, xI_exitM, xI_skip, xI_blk, exitA, ty2, ty5, ty9, ty29, eK101_0_0, hlt, hlt2, hw, ha, bb1, hc1, hc2, hc3]
    simpa using h1

noncomputable def b102 : Code := Try.f102.body.getD .skip
noncomputable def B102_0 : Code := (bodyC (bodyC (sndC (fstC (sndC (sndC b102))))))
noncomputable def K102_0 : List It := .lp B102_0 :: .blk 0 :: .code (sndC (sndC (sndC b102))) :: []
theorem xl102_0 {fi : FI} {env : Env} {σ : St} : exI TT fi K102_0 env σ = exI TT fi (.code B102_0 :: K102_0) env σ := by unfold K102_0; exact xI_lp
noncomputable def R102_0_0 : List It := .code (sndC (sndC (sndC b102))) :: []
theorem eK102_0_0 : exitA 0 K102_0 = some R102_0_0 := rfl
theorem l102 (A : List Nat) (k c : Nat) (h16 : A.length ≤ 16) (hA : ∀ r ∈ A, r < 65536) (hk : k < 65536) (hc : c ≤ 400) (p : Nat) (x : Blk) (hx : x.cells = lin A.length (nints A) k) : ∀ (m t : Nat) (l : List UInt8) (σ : St) (b : Nat), l.length + m = c → t < 65536 → σ.get p = some x → p < b → BRow σ b l →
    ∃ σ', exI TT (FI.of Try.f102 (TT.an 102)) K102_0 [(1, .int .i64 t), (3, .ptr p 0), (7, .sl b 0 l.length l.length), (9, .int .i64 c), (10, .int .i64 l.length)] σ = some (.str (l ++ outB A k m t), σ') := by
  intro m
  induction m with
  | zero =>
    intro t l σ b hl ht hp hpb hr
    obtain rfl : c = l.length := by omega
    have hs := toStr hr rfl
    refine ⟨σ, ?_⟩
    rw [fi102]
    rw [xl102_0]
    simp only [B102_0, b102, Try.f102, Option.getD, fstC, sndC, bodyC, thnC, elsC]
    simp [xI_seq, xI_region, xI_ret, regA, regOps, runOps, opStep, wantedA, opA, evo, evos, calleeA, lk, nif_eq, putE, paramsE, valS, val2, keepE, restrict, finA, resA, binA, binInt, ofConst, ofConst1, loadA, TK.isAgg, asVar, unA, builtinA, lenOpA, lenA, ileb_cast, ileb_eq, ieqb_dec, indexAddrA, inB_dec, evPairs, storeA, AV.cellsOf, pairsOf, xI_nil, binBool, gcE, evOpt, xI_block, xI_loopH, xI_condM, xI_exitM, xI_skip, xI_blk, exitA, ty2, ty5, ty9, ty29, ty33, ty41, eK102_0_0]
    simp only [R102_0_0, b102, Try.f102, Option.getD, fstC, sndC, bodyC, thnC, elsC]
    simp [xI_seq, xI_region, xI_ret, regA, regOps, runOps, opStep, wantedA, opA, evo, evos, calleeA, lk, nif_eq, putE, paramsE, valS, val2, keepE, restrict, finA, resA, binA, binInt, ofConst, ofConst1, loadA, TK.isAgg, asVar, unA, builtinA, lenOpA, lenA, ileb_cast, ileb_eq, ieqb_dec, indexAddrA, inB_dec, evPairs, storeA, AV.cellsOf, pairsOf, xI_nil, binBool, gcE, evOpt, xI_block, xI_loopH, xI_condM, xI_exitM, xI_skip, xI_blk, exitA, ty2, ty5, ty9, ty29, ty33, ty41, eK102_0_0, hs, outB]
  | succ m ih =>
    intro t l σ b hl ht hp hpb hr
    have hpl := par_lt (andN k t)
    have hx2 := hx
    rw [lin_eq] at hx2
    obtain ⟨σ1, ha, hr1, hn1, ho1⟩ := bappend (x := bb (par (andN k t))) ty29 ty5 hr rfl (by omega)
    have hbn : b < σ.n := by obtain ⟨_, _, h⟩ := hr; exact h
    have hp1 : σ1.get p = some x := (ho1 p (by omega) (by omega)).trans hp
    have hcp1 : ∀ σ', σ'.get p = some x → cellsAt σ' (.ptr p 1) 1 = some [.lst A.length (ints (nints A))] := fun σ' hp => by simp [cellsAt, hp, hx2, getCells, takeN, dropN, nints_length]
    have hcp2 : cellsAt σ (.ptr p 2) 1 = some [.int .i64 k] := by simp [cellsAt, hp, hx2, getCells, takeN, dropN]
    have hcp1' := hcp1 σ1 hp1
    have hc1 := n_and (a := k) (b := t) (by omega) (by omega)
    have hle : andN k t ≤ k := Nat.and_le_left
    have hc2 := c100 (andN k t) (by omega) σ
    have hc3 := c132 (par (andN k t)) hpl σ
    have hc4 : callI TT 99 [.lst A.length (ints (nints A)), .int .i64 t] σ1 = some (.int .i64 (app A t : Nat), σ1) := v99 A hA h16 t (pow_62 ht) σ1 _ rfl
    obtain ⟨σ', h1⟩ := ih (app A t) (l ++ [bb (par (andN k t))]) σ1 (σ.n + 1) (by simp; omega) (app_16 h16 t) hp1 (by omega) hr1
    refine ⟨σ', ?_⟩
    rw [show l ++ outB A k (m + 1) t = l ++ [bb (par (andN k t))] ++ outB A k m (app A t) by simp [outB]]
    simp only [List.length_append, List.length_singleton] at h1
    have hlt : ¬ c ≤ l.length := by omega
    have hlt2 : l.length < c := by omega
    have hw := wrapS (n := l.length) (by omega)
    rw [fi102] at h1 ⊢
    rw [xl102_0]
    simp only [B102_0, b102, Try.f102, Option.getD, fstC, sndC, bodyC, thnC, elsC]
    simp [xI_seq, xI_region, xI_ret, regA, regOps, runOps, opStep, wantedA, opA, evo, evos, calleeA, lk, nif_eq, putE, paramsE, valS, val2, keepE, restrict, finA, resA, binA, binInt, ofConst, ofConst1, loadA, TK.isAgg, asVar, unA, builtinA, lenOpA, lenA, ileb_cast, ileb_eq, ieqb_dec, indexAddrA, inB_dec, evPairs, storeA, AV.cellsOf, pairsOf, xI_nil, binBool, gcE, evOpt, xI_block, xI_loopH, xI_condM, xI_exitM, xI_skip, xI_blk, exitA, ty2, ty5, ty9, ty29, ty33, ty41, eK102_0_0, hlt, hlt2, hw, ha, bb1, hcp1', hcp2, hc1, hc2, hc3, hc4, fieldAddrA, allOne, AV.one, n_push, ty2, ty33, ty38, ty41]
    simpa using h1

theorem r101 (A : List Nat) (k c t : Nat) (h16 : A.length ≤ 16) (hA : ∀ r ∈ A, r < 65536) (hk : k < 65536) (hc : c ≤ 400) (ht : t < 65536) (p : Nat) (x : Blk) (hx : x.cells = lin A.length (nints A) k) (σ : St) (hp : σ.get p = some x) (hpn : p < σ.n) :
    ∃ σ', callI TT 101 [.ptr p 0, .int .i64 t, .int .i64 c] σ = some (.str (outB A k c t), σ') := by
  obtain ⟨σ', h⟩ := l101 A k c h16 hA hk hc p x hx c t [] (σ.push ⟨intsOf [], 1, false⟩) σ.n (by simp) ht ((get_push_lt hpn).trans hp) hpn ⟨false, get_push_same, Nat.lt_succ_self _⟩
  refine ⟨σ', ?_⟩
  rw [cI_0 fn101 rfl md101, fi101]
  rw [fi101] at h
  simp only [List.nil_append, List.length_nil, Int.natCast_zero, show ((0 : Nat) : Int) = 0 from rfl] at h
  simp [xI_seq, xI_region, xI_ret, regA, regOps, runOps, opStep, wantedA, opA, evo, evos, calleeA, lk, nif_eq, putE, paramsE, valS, val2, keepE, restrict, finA, resA, binA, binInt, ofConst, ofConst1, loadA, TK.isAgg, asVar, unA, builtinA, lenOpA, lenA, ileb_cast, ileb_eq, ieqb_dec, indexAddrA, inB_dec, evPairs, storeA, AV.cellsOf, pairsOf, xI_nil, binBool, gcE, evOpt, xI_block, xI_loopH, xI_condM, xI_exitM, xI_skip, xI_blk, exitA, ty2, ty5, ty9, ty29, eK101_0_0, bb0]
  exact h
theorem v102 (A : List Nat) (k c t : Nat) (h16 : A.length ≤ 16) (hA : ∀ r ∈ A, r < 65536) (hk : k < 65536) (hc : c ≤ 400) (ht : t < 65536) : FnV TT 102 [.agg (lin A.length (nints A) k), .int .i64 t, .int .i64 c] (.str (outB A k c t)) := by
  obtain ⟨σ', h⟩ := l102 A k c h16 hA hk hc 0 _ rfl c t [] (((⟨[], 0⟩ : St).push ⟨lin A.length (nints A) k, 3, false⟩).push ⟨intsOf [], 1, false⟩) 1 (by simp) ht rfl (by decide) ⟨false, rfl, Nat.lt_succ_self _⟩
  refine FnV.mk fn102 rfl md102 ⟨σ', ?_⟩ (fun _ => rfl) rfl
  rw [fi102]
  rw [fi102] at h
  simp only [List.nil_append, List.length_nil, Int.natCast_zero, show ((0 : Nat) : Int) = 0 from rfl] at h
  simp only [lin] at h ⊢
  simp [xI_seq, xI_region, xI_ret, regA, regOps, runOps, opStep, wantedA, opA, evo, evos, calleeA, lk, nif_eq, putE, paramsE, valS, val2, keepE, restrict, finA, resA, binA, binInt, ofConst, ofConst1, loadA, TK.isAgg, asVar, unA, builtinA, lenOpA, lenA, ileb_cast, ileb_eq, ieqb_dec, indexAddrA, inB_dec, evPairs, storeA, AV.cellsOf, pairsOf, xI_nil, binBool, gcE, evOpt, xI_block, xI_loopH, xI_condM, xI_exitM, xI_skip, xI_blk, exitA, ty2, ty5, ty9, ty29, ty33, ty41, eK102_0_0, fieldAddrA, allOne, AV.one, n_push, ty2, ty33, ty38, ty41, bb0]
  exact h
theorem v55 (w : Int) (R : List Int) (o s n : Int) (hs : R.length < 1000000000000) : FnV TT 55 [.agg (lin w R o), .int .i64 s, .int .i64 n] (.tup [.str (lbV w R o s n), .bool (lbOk w R o s n)]) := by
  refine FnV.mk fn55 rfl md55 ?_ (fun _ => rfl) rfl
  obtain ⟨σ, hσ⟩ : ∃ σ, (⟨[], 0⟩ : St).push ⟨lin w R o, 3, false⟩ = σ := ⟨_, rfl⟩
  have hg : σ.get 0 = some ⟨lin w R o, 3, false⟩ := by subst hσ; rfl
  have hn0 : 0 < σ.n := by subst hσ; exact Nat.succ_pos _
  have h := c96 w R o s hs σ 0 _ hg rfl
  have hi := c88 n 0 400 σ
  rw [fi55]
  cases h1 : vst w R o s with
  | false =>
    rw [h1] at h
    have hj : lbOk w R o s n = false := by simp [lbOk, h1]
    rw [lbV_no hj, hj]
    simp only [lin] at hσ ⊢
    simp [xI_seq, xI_region, xI_ret, regA, regOps, runOps, opStep, wantedA, opA, evo, evos, calleeA, lk, nif_eq, putE, paramsE, valS, val2, keepE, restrict, finA, resA, binA, binInt, ofConst, ofConst1, loadA, TK.isAgg, asVar, unA, builtinA, lenOpA, lenA, ileb_cast, ileb_eq, ieqb_dec, indexAddrA, inB_dec, evPairs, storeA, AV.cellsOf, pairsOf, xI_nil, binBool, gcE, evOpt, xI_block, xI_loopH, xI_condM, xI_exitM, xI_skip, xI_blk, exitA, ty4, ty41, fieldAddrA, allOne, AV.one, n_push, ty2, ty33, ty38, ty41, hσ, h]
  | true =>
    rw [h1] at h
    obtain ⟨A, k, t, rfl, rfl, rfl, rfl, h2, h3, h4, h5, h6, h7⟩ := vst_nat' h1
    cases h8 : inR n 0 400 with
    | false =>
      rw [h8] at hi
      have hj : lbOk (A.length : Int) (nints A) k t n = false := by simp [lbOk, h1, h8]
      rw [lbV_no hj, hj]
      simp only [lin] at hσ ⊢
      simp [xI_seq, xI_region, xI_ret, regA, regOps, runOps, opStep, wantedA, opA, evo, evos, calleeA, lk, nif_eq, putE, paramsE, valS, val2, keepE, restrict, finA, resA, binA, binInt, ofConst, ofConst1, loadA, TK.isAgg, asVar, unA, builtinA, lenOpA, lenA, ileb_cast, ileb_eq, ieqb_dec, indexAddrA, inB_dec, evPairs, storeA, AV.cellsOf, pairsOf, xI_nil, binBool, gcE, evOpt, xI_block, xI_loopH, xI_condM, xI_exitM, xI_skip, xI_blk, exitA, ty4, ty41, fieldAddrA, allOne, AV.one, n_push, ty2, ty33, ty38, ty41, hσ, h, hi]
    | true =>
      rw [h8] at hi
      have hn := inR_iff.1 h8
      obtain ⟨m, rfl⟩ : ∃ m : Nat, n = m := ⟨n.toNat, by omega⟩
      have hj : lbOk (A.length : Int) (nints A) k t m = true := by simp [lbOk, h1, h8]
      rw [lbV_yes hj, hj]
      obtain ⟨σ', e1⟩ := r101 A k m t h3 h4 h5 (by omega) h6 0 _ rfl σ hg hn0
      simp only [lin, nints_length] at hσ ⊢
      simp [xI_seq, xI_region, xI_ret, regA, regOps, runOps, opStep, wantedA, opA, evo, evos, calleeA, lk, nif_eq, putE, paramsE, valS, val2, keepE, restrict, finA, resA, binA, binInt, ofConst, ofConst1, loadA, TK.isAgg, asVar, unA, builtinA, lenOpA, lenA, ileb_cast, ileb_eq, ieqb_dec, indexAddrA, inB_dec, evPairs, storeA, AV.cellsOf, pairsOf, xI_nil, binBool, gcE, evOpt, xI_block, xI_loopH, xI_condM, xI_exitM, xI_skip, xI_blk, exitA, ty4, ty41, fieldAddrA, allOne, AV.one, n_push, ty2, ty33, ty38, ty41, hσ, h, hi, e1]

theorem v56 (w : Int) (R : List Int) (o s n : Int) (hs : R.length < 3000000) : FnV TT 56 [.agg (lin w R o), .int .i64 s, .int .i64 n] (.tup [.str (lbV w R o s n), .bool (lbOk w R o s n)]) := by
  refine FnV.mk fn56 rfl md56 ?_ (fun _ => rfl) rfl
  obtain ⟨σ, hσ⟩ : ∃ σ, (⟨[], 0⟩ : St).push ⟨lin w R o, 3, false⟩ = σ := ⟨_, rfl⟩
  have hcp3 : cellsAt σ (.ptr 0 0) 3 = some [.int .i64 w, .lst R.length (ints R), .int .i64 o] := by subst hσ; rfl
  have h : callI TT 98 [.agg [.int .i64 w, .lst R.length (ints R), .int .i64 o], .int .i64 s] σ = some (.bool (vst w R o s), σ) := v98 w R o s hs σ _ rfl
  have hi := c80 n 0 400 σ
  rw [fi56]
  cases h1 : vst w R o s with
  | false =>
    rw [h1] at h
    have hj : lbOk w R o s n = false := by simp [lbOk, h1]
    rw [lbV_no hj, hj]
    simp only [lin] at hσ ⊢
    simp [xI_seq, xI_region, xI_ret, regA, regOps, runOps, opStep, wantedA, opA, evo, evos, calleeA, lk, nif_eq, putE, paramsE, valS, val2, keepE, restrict, finA, resA, binA, binInt, ofConst, ofConst1, loadA, TK.isAgg, asVar, unA, builtinA, lenOpA, lenA, ileb_cast, ileb_eq, ieqb_dec, indexAddrA, inB_dec, evPairs, storeA, AV.cellsOf, pairsOf, xI_nil, binBool, gcE, evOpt, xI_block, xI_loopH, xI_condM, xI_exitM, xI_skip, xI_blk, exitA, ty4, ty41, fieldAddrA, allOne, AV.one, n_push, ty2, ty33, ty38, ty41, hσ, hcp3, h]
  | true =>
    rw [h1] at h
    obtain ⟨A, k, t, rfl, rfl, rfl, rfl, h2, h3, h4, h5, h6, h7⟩ := vst_nat' h1
    cases h8 : inR n 0 400 with
    | false =>
      rw [h8] at hi
      have hj : lbOk (A.length : Int) (nints A) k t n = false := by simp [lbOk, h1, h8]
      rw [lbV_no hj, hj]
      simp only [lin] at hσ ⊢
      simp [xI_seq, xI_region, xI_ret, regA, regOps, runOps, opStep, wantedA, opA, evo, evos, calleeA, lk, nif_eq, putE, paramsE, valS, val2, keepE, restrict, finA, resA, binA, binInt, ofConst, ofConst1, loadA, TK.isAgg, asVar, unA, builtinA, lenOpA, lenA, ileb_cast, ileb_eq, ieqb_dec, indexAddrA, inB_dec, evPairs, storeA, AV.cellsOf, pairsOf, xI_nil, binBool, gcE, evOpt, xI_block, xI_loopH, xI_condM, xI_exitM, xI_skip, xI_blk, exitA, ty4, ty41, fieldAddrA, allOne, AV.one, n_push, ty2, ty33, ty38, ty41, hσ, hcp3, h, hi]
    | true =>
      rw [h8] at hi
      have hn := inR_iff.1 h8
      obtain ⟨m, rfl⟩ : ∃ m : Nat, n = m := ⟨n.toNat, by omega⟩
      have hj : lbOk (A.length : Int) (nints A) k t m = true := by simp [lbOk, h1, h8]
      rw [lbV_yes hj, hj]
      have e1 : callI TT 102 [.agg [.int .i64 A.length, .lst A.length (ints (nints A)), .int .i64 k], .int .i64 t, .int .i64 m] σ = some (.str (outB A k m t), σ) := v102 A k m t h3 h4 h5 (by omega) h6 σ _ (by rw [lin_eq, nints_length]; rfl)
      simp only [nints_length] at hcp3 h
      simp only [lin, nints_length] at hσ ⊢
      simp [xI_seq, xI_region, xI_ret, regA, regOps, runOps, opStep, wantedA, opA, evo, evos, calleeA, lk, nif_eq, putE, paramsE, valS, val2, keepE, restrict, finA, resA, binA, binInt, ofConst, ofConst1, loadA, TK.isAgg, asVar, unA, builtinA, lenOpA, lenA, ileb_cast, ileb_eq, ieqb_dec, indexAddrA, inB_dec, evPairs, storeA, AV.cellsOf, pairsOf, xI_nil, binBool, gcE, evOpt, xI_block, xI_loopH, xI_condM, xI_exitM, xI_skip, xI_blk, exitA, ty4, ty41, fieldAddrA, allOne, AV.one, n_push, ty2, ty33, ty38, ty41, hσ, hcp3, h, hi, e1]

set_option maxHeartbeats 1000000 in
theorem w13 (w : Int) (l : List Int) (o : Int) (s : Int) (n : Int) (hn0 : l.length ≤ 9223372036854775807) : FnV TT 13 [.agg (lin w l o), .int .i64 s, .int .i64 n] (.bool true) := by
  refine FnV.mk fn13 rfl md13 ?_ (fun _ => rfl) rfl
  rw [fi13]
  have hsz : ∀ σ : St, callI TT 30 [.agg (lin w l o), .int .i64 1048576] σ = some (.int .i64 (if l.length ≤ 1048576 then (1048576 : Int) - l.length else -1), σ) := fun σ => v30 w l o 1048576 hn0 (by decide) σ _ rfl
  by_cases hbig : l.length ≤ 1048576
  · have hl : l.length < 3000000 := by omega
    have hn : l.length < 1000000000000 := by omega
    have hto : ∀ σ : St, callI TT 32 [.agg (lin w l o)] σ = some (.agg (lin w l o), σ) := fun σ => tol32 w l o hn σ _ rfl rfl
    have heq : ∀ σ : St, callI TT 34 [.agg (lin w l o), .agg (lin w l o)] σ = some (.bool true, σ) := fun σ => v34 w l o hn σ _ rfl
    have hS : ∀ σ : St, callI TT 55 [.agg (lin w l o), .int .i64 s, .int .i64 n] σ = some (.tup [.str (lbV w l o s n), .bool (lbOk w l o s n)], σ) := fun σ => v55 w l o s n hn σ _ rfl
    have hI : ∀ σ : St, callI TT 56 [.agg (lin w l o), .int .i64 s, .int .i64 n] σ = some (.tup [.str (lbV w l o s n), .bool (lbOk w l o s n)], σ) := fun σ => v56 w l o s n hl σ _ rfl
    have h1 : ¬ ((1048576 : Int) - l.length < 0) := by omega
    have h2 : ¬ ((1048576 : Int) < l.length) := by omega
    simp only [if_pos hbig] at hsz
    simp only [lin] at hsz hto heq hS hI ⊢
    simp [xI_seq, xI_region, xI_ret, regA, regOps, runOps, opStep, wantedA, opA, evo, evos, calleeA, lk, nif_eq, putE, paramsE, valS, val2, keepE, restrict, finA, resA, binA, binInt, ofConst, ofConst1, loadA, TK.isAgg, asVar, unA, builtinA, lenOpA, lenA, ileb_cast, ileb_eq, ieqb_dec, indexAddrA, inB_dec, evPairs, storeA, AV.cellsOf, pairsOf, xI_nil, binBool, gcE, evOpt, xI_block, xI_loopH, xI_condM, xI_exitM, xI_skip, xI_blk, exitA, ty3, ty4, ty9, ty38, ty41, cellsAt, getCells, takeN, dropN, fieldAddrA, allOne, AV.one, n_push, storeCellsA, putN, overN, ty2, ty33, ty38, ty41, St.push, St.get, St.set, hget, hset, runTr, pairsOk, pairOk, lstAt, lastOf, sameVal, AV.eqv, eqvs, eqvs_ints, regOps, blt_dec, cond_true, cond_false, hsz, hto, heq, hS, hI, h1, h2, bsne]
  · simp only [if_neg hbig] at hsz
    simp only [lin] at hsz ⊢
    simp [xI_seq, xI_region, xI_ret, regA, regOps, runOps, opStep, wantedA, opA, evo, evos, calleeA, lk, nif_eq, putE, paramsE, valS, val2, keepE, restrict, finA, resA, binA, binInt, ofConst, ofConst1, loadA, TK.isAgg, asVar, unA, builtinA, lenOpA, lenA, ileb_cast, ileb_eq, ieqb_dec, indexAddrA, inB_dec, evPairs, storeA, AV.cellsOf, pairsOf, xI_nil, binBool, gcE, evOpt, xI_block, xI_loopH, xI_condM, xI_exitM, xI_skip, xI_blk, exitA, ty3, ty4, ty9, ty38, ty41, cellsAt, getCells, takeN, dropN, fieldAddrA, allOne, AV.one, n_push, storeCellsA, putN, overN, ty2, ty33, ty38, ty41, St.push, St.get, St.set, hget, hset, runTr, pairsOk, pairOk, lstAt, lastOf, sameVal, AV.eqv, eqvs, eqvs_ints, regOps, blt_dec, cond_true, cond_false, hsz]

end Go.Proofs.Ytonnbgjbohbibaa
