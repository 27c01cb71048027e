/- Contracts: small functions, texts of bits, sums. Nothing is claimed here; no condition. -/
import Derived.Test.YtjecbjnckbihoaaDoorQb
namespace Go.Proofs.YtjecbjnckbihoaaDoor
open Go Go.Abs
set_option linter.unusedSimpArgs false
set_option linter.unusedVariables false
open Go.Wd
theorem eqvs_ints : ∀ (l : List Int), eqvs (ints l) (ints l) = true
  | [] => rfl
  | x :: l => by rw [ints_cons]; simp [eqvs, AV.eqv, eqvs_ints l]

theorem pw_pos (k : Nat) : 1 ≤ pw k := Nat.one_le_two_pow
def inR (n lo hi : Int) : Bool := decide (lo ≤ n) && decide (n ≤ hi)
theorem bs1 (σ : St) (x : Int) : buildSliceA TT σ 25 1 [(0, .int .i64 x)] = some (.sl σ.n 0 1 1, σ.push ⟨[.int .i64 x], 1, false⟩) := build_one ty25 ty2
theorem bn0 (σ : St) : buildSliceA TT σ 25 0 [] = some (.sl σ.n 0 0 0, σ.push ⟨ints [], 1, false⟩) := build_nil ty25 ty2
theorem mkI (σ : St) (n : Nat) (hn : n ≤ 17592186044416) : makeSliceA TT σ 25 (.int .i64 n) (.int .i64 n) = some (.sl σ.n 0 n n, σ.push ⟨ints (List.replicate n 0), 1, false⟩) := make_ints ty25 ty2 hn
def iotaF (k : Int) : Nat → List Int
  | 0 => []
  | m + 1 => k :: iotaF (k + 1) m
theorem iotaF_get : ∀ (m : Nat) (k : Int) (i : Nat), i < m → (iotaF k m)[i]? = some (k + (i : Int))
  | 0, _, _, h => by omega
  | m + 1, k, 0, _ => by simp [iotaF]
  | m + 1, k, i + 1, h => by simp only [iotaF, List.getElem?_cons_succ]; rw [iotaF_get m (k + 1) i (by omega)]; congr 1; omega
theorem iotaF_length : ∀ (m : Nat) (k : Int), (iotaF k m).length = m
  | 0, _ => rfl
  | m + 1, k => by simp [iotaF, iotaF_length m]

theorem c19 (n lo hi : Int) (σ : St) : callI TT 19 [.int .i64 n, .int .i64 lo, .int .i64 hi] σ = some (.bool (inR n lo hi), σ) := by
  refine (FnV.mk (args' := [.int .i64 n, .int .i64 lo, .int .i64 hi]) fn19 rfl md19 ⟨⟨[], 0⟩, ?_⟩ (fun _ => rfl) rfl) σ _ rfl
  rw [fi19]
  by_cases h1 : lo ≤ n <;> simp [xI_seq, xI_region, xI_ret, regA, regOps, runOps, opStep, wantedA, opA, evo, evos, calleeA, lk, nif_eq, putE, paramsE, valS, val2, keepE, restrict, finA, resA, binA, binInt, ofConst, ofConst1, loadA, TK.isAgg, asVar, unA, builtinA, lenOpA, lenA, ileb_cast, ileb_eq, ieqb_dec, indexAddrA, inB_dec, evPairs, storeA, AV.cellsOf, pairsOf, xI_nil, binBool, gcE, evOpt, tagZ, isI64, pureLd, loadP, boxP, inR, h1]

theorem inR_iff {n lo hi : Int} : inR n lo hi = true ↔ lo ≤ n ∧ n ≤ hi := by simp [inR]
theorem dp1 {α : Type} {L : List α} {i : Nat} {x : α} {r : List α} (h : L.drop i = x :: r) : i < L.length ∧ L[i]? = some x ∧ L.drop (i + 1) = r := by
  have hl : (L.drop i).length = r.length + 1 := by rw [h]; rfl
  rw [List.length_drop] at hl
  refine ⟨by omega, ?_, ?_⟩
  · have := congrArg (fun l => l[0]?) h
    simpa using this
  · have := congrArg (List.drop 1) h
    simpa [List.drop_drop] using this
theorem nints_read {l : List Nat} {i x : Nat} {σ : St} (h : l[i]? = some x) : cellsAt σ (.lp (ints (nints l)) i) 1 = some [.int .i64 x] := lst_read (by simp only [nints, List.getElem?_map, h]; rfl)
/-- A row of bytes that a slice shows whole. -/
def BRow (σ : St) (b : Nat) (l : List UInt8) : Prop := ∃ z o, σ.get b = some ⟨intsOf l, z, o⟩ ∧ ((z = 1 ∧ o = false) ∨ z = tagOf 5 1) ∧ b < σ.n
theorem BRow.push (σ : St) (l : List UInt8) : BRow (σ.push ⟨intsOf l, 1, false⟩) σ.n l := ⟨1, false, get_push_same, .inl ⟨rfl, rfl⟩, Nat.lt_succ_self _⟩
theorem BRow.lt {σ : St} {b : Nat} {l : List UInt8} (h : BRow σ b l) : b < σ.n := by obtain ⟨_, _, _, _, h⟩ := h; exact h
theorem BRow.keep {σ σ' : St} {b : Nat} {l : List UInt8} (h : BRow σ b l) (hn : σ.n ≤ σ'.n) (he : σ'.get b = σ.get b) : BRow σ' b l := by
  obtain ⟨z, o, h1, h2, h3⟩ := h; exact ⟨z, o, by rw [he]; exact h1, h2, by omega⟩
theorem intsOf_length : ∀ l : List UInt8, (intsOf l).length = l.length
  | [] => rfl
  | _ :: r => by simp [intsOf, intsOf_length r]
theorem intsOf_append : ∀ a b : List UInt8, intsOf (a ++ b) = intsOf a ++ intsOf b
  | [], _ => rfl
  | _ :: r, b => by simp [intsOf, intsOf_append r b]
theorem bytesOf_intsOf : ∀ l : List UInt8, bytesOf (intsOf l) = some l
  | [] => rfl
  | x :: r => by simp [intsOf, bytesOf, bytesOf_intsOf r]
theorem getCells_intsOf {l : List UInt8} {n : Nat} (h : n = l.length) : getCells (intsOf l) 0 n = some (intsOf l) := by
  subst h
  rw [getCells_eq, if_pos (by simp [intsOf_length]), List.drop_zero, List.take_of_length_le (by simp [intsOf_length])]
theorem allOne_intsOf : ∀ l : List UInt8, allOne (intsOf l) = true
  | [] => rfl
  | _ :: r => by simp [intsOf, allOne, AV.one, allOne_intsOf r]
theorem tag_m : tagOf 5 1 % 7000000000 = 1 := by decide
theorem bappend {T : Tab} {σ : St} {b n : Nat} {l : List UInt8} {x : UInt8} {st : TypeId} (ht : T.ty st = some ⟨.slice 5, 1, 24, [.nilS]⟩) (he : T.ty 5 = some ⟨.int .u8, 1, 1, [.int .u8 0]⟩)
    (hb : BRow σ b l) (hn : n = l.length) (hs : n < 1000000000000) :
    ∃ σ', appendA T (σ.push ⟨[.int .u8 x.toNat], 1, false⟩) st st (.sl b 0 n n) (.sl σ.n 0 1 1) = some (.sl (σ.n + 1) 0 (n + 1) (n + 1), σ') ∧ BRow σ' (σ.n + 1) (l ++ [x]) ∧ σ'.n = σ.n + 2 ∧ (∃ o, σ'.get (σ.n + 1) = some ⟨intsOf (l ++ [x]), tagOf 5 1, o⟩) ∧ ∀ c, c ≠ b → c < σ.n → σ'.get c = σ.get c := by
  obtain ⟨z, o, hg0, hz, hbn⟩ := hb
  have hg : (σ.push ⟨[.int .u8 x.toNat], 1, false⟩).get b = some ⟨intsOf l, z, o⟩ := by rw [get_push_lt hbn]; exact hg0
  have h1 : firstA (σ.push ⟨[.int .u8 x.toNat], 1, false⟩) 1 1 (.sl σ.n 0 1 1) = some [.int .u8 x.toNat] := by
    simp [firstA, get_push_same, getCells, dropN, takeN]
  have hm : z % 7000000000 = 1 := by
    rcases hz with ⟨rfl, _⟩ | rfl
    · rfl
    · exact tag_m
  have hgr : growE ⟨.int .u8, 1, 1, [.int .u8 0]⟩ 5 ⟨intsOf l, z, o⟩ 0 = tagOf 5 1 := by
    unfold growE
    rcases hz with ⟨_, rfl⟩ | rfl
    · simp
    · simp
  have ha : appendA T (σ.push ⟨[.int .u8 x.toNat], 1, false⟩) st st (.sl b 0 n n) (.sl σ.n 0 1 1) =
      some (.sl (σ.n + 1) 0 (n + 1) (n + 1), (if o then (σ.push ⟨[.int .u8 x.toNat], 1, false⟩).del b else σ.push ⟨[.int .u8 x.toNat], 1, false⟩).push ⟨intsOf (l ++ [x]), tagOf 5 1, true⟩) := by
    unfold appendA
    simp only [ht, he, lenA, h1, allOne, AV.one, hg, Nat.mul_one, getCells_intsOf hn, intsOf_length]
    rw [if_neg (by simp), if_neg (by omega), if_pos ⟨by omega, by omega, hm, by omega, by omega⟩, hgr]
    cases o <;> simp [n_push, intsOf, intsOf_append]
  have hget : ∀ τ : St, τ.n = σ.n + 1 → (τ.push ⟨intsOf (l ++ [x]), tagOf 5 1, true⟩).get (σ.n + 1) = some ⟨intsOf (l ++ [x]), tagOf 5 1, true⟩ := fun τ h => by rw [← h]; exact get_push_same
  refine ⟨_, ha, ⟨tagOf 5 1, true, ?_, .inr rfl, ?_⟩, ?_, ⟨true, ?_⟩, ?_⟩
  · cases o <;> exact hget _ rfl
  · cases o <;> simp [n_push, n_del]
  · cases o <;> rfl
  · cases o <;> exact hget _ rfl
  · intro c hc hcn
    have hd : ∀ τ : St, τ.n = σ.n + 1 → (τ.push ⟨intsOf (l ++ [x]), tagOf 5 1, true⟩).get c = τ.get c := fun τ h => get_push_lt (by omega)
    cases o
    · simp only [Bool.false_eq_true, if_false]
      rw [hd _ rfl, get_push_lt hcn]
    · simp only [if_true]
      rw [hd _ rfl, get_del_ne (fun e => hc e.symm), get_push_lt hcn]
theorem bb1 (σ : St) (x : UInt8) : buildSliceA TT σ 22 1 [(0, .int .u8 x.toNat)] = some (.sl σ.n 0 1 1, σ.push ⟨[.int .u8 x.toNat], 1, false⟩) := by
  simp [buildSliceA, ty22, ty5, fillA, repeatCells, putCells, AV.cellsOf, allOne, AV.one]
theorem bb0 (σ : St) : buildSliceA TT σ 22 0 [] = some (.sl σ.n 0 0 0, σ.push ⟨intsOf [], 1, false⟩) := by
  simp [buildSliceA, ty22, ty5, fillA, repeatCells, intsOf]
theorem toStr {σ : St} {b n : Nat} {l : List UInt8} (h : BRow σ b l) (hn : n = l.length) : convA TT σ 22 9 (.sl b 0 n n) = some (.str l, σ) := by
  obtain ⟨z, o, hg, _, _⟩ := h
  simp [convA, ty22, ty9, ty5, lenA, firstA, hg, getCells_intsOf hn, bytesOf_intsOf]
/-- The letter of a bit. -/
def bb (p : Nat) : UInt8 := UInt8.ofNat (48 + p)
theorem bb_nat {p : Nat} (h : p < 2) : (bb p).toNat = 48 + p := by
  have : p = 0 ∨ p = 1 := by omega
  rcases this with rfl | rfl <;> rfl
theorem bb_conv {p : Nat} (h : p < 2) (σ : St) : convA TT σ 2 5 (.int .i64 (48 + (p : Int))) = some (.int .u8 ((bb p).toNat : Nat), σ) := by
  have : wrapA .u8 ((48 + p : Nat) : Int) = ((48 + p : Nat) : Int) := w_wrap .u8 (by simp only [topOf]; omega)
  rw [bb_nat h, ← this]
  simp [convA, ty2, ty5]
theorem bb_wrap {p : Nat} (h : p < 2) : wrapA .i64 (48 + (p : Int)) = 48 + (p : Int) := wrapA_id (by omega) (by omega)
theorem bsne (s : List UInt8) : binStr .neq s s = some (.bool false) := by simp [binStr]

def zA : List AV := List.replicate 256 (.bool false)
theorem tyA : TT.ty 67 = some ⟨.array 256 4, 256, 256, zA⟩ := ty67
theorem tgA : tagZ 67 zA 256 = 256 := by kernel_rfl
theorem zA_len : zA.length = 256 := by rw [zA]; exact List.length_replicate

/-- Is a byte the letter of a bit? -/
def isBit (x : UInt8) : Bool := x == 48 || x == 49
def isBits (l : List UInt8) : Bool := decide (l.length ≤ 400) && l.all isBit
def setA : List AV := (List.range 256).map fun i => .bool (i == 48 || i == 49)
theorem setA_get {i : Nat} (h : i < 256) : getCells setA i 1 = some [.bool (i == 48 || i == 49)] := by
  rw [getCells_eq, if_pos (by simp [setA]; omega)]
  simp only [setA, ← List.map_drop, ← List.map_take]
  rw [List.drop_eq_getElem_cons (by simpa using h)]
  simp
theorem isBit_nat (x : UInt8) : isBit x = (x.toNat == 48 || x.toNat == 49) := by
  have h1 : (x == 48) = (x.toNat == 48) := by
    by_cases h : x = 48
    · subst h; rfl
    · have h9 : x.toNat ≠ 48 := fun e => h (UInt8.toNat_inj.1 e)
      rw [beq_false_of_ne h, beq_false_of_ne h9]
  have h2 : (x == 49) = (x.toNat == 49) := by
    by_cases h : x = 49
    · subst h; rfl
    · have h9 : x.toNat ≠ 49 := fun e => h (UInt8.toNat_inj.1 e)
      rw [beq_false_of_ne h, beq_false_of_ne h9]
  rw [isBit, h1, h2]
set_option maxRecDepth 100000 in
theorem r45 : FnV TT 45 [.str [48, 49]] (.tup [.agg setA, .bool true]) := FnV.mk fn45 rfl md45 (exI_of_exec (n := 1000) (by kernel_rfl)) (fun _ => rfl) (by kernel_rfl)

theorem c57 {σ : St} {b : Nat} {o : Bool} {z : Nat} (hb : σ.get b = some ⟨setA, z, o⟩) (x : UInt8) : callI TT 57 [.ptr b 0, .int .u8 x.toNat] σ = some (.bool (isBit x), σ) := by
  have hx := x.toNat_lt
  have h1 : x.toNat < 256 := by omega
  have h1i : (x.toNat : Int) < 256 := by omega
  have hc : cellsAt σ (.ptr b x.toNat) 1 = some [.bool (isBit x)] := by simp only [cellsAt, hb, setA_get h1, isBit_nat]
  rw [cI_0 fn57 rfl md57, fi57]
  simp [xI_seq, xI_region, xI_ret, regA, regOps, runOps, opStep, wantedA, opA, evo, evos, calleeA, lk, nif_eq, putE, paramsE, valS, val2, keepE, restrict, finA, resA, binA, binInt, ofConst, ofConst1, loadA, TK.isAgg, asVar, unA, builtinA, lenOpA, lenA, ileb_cast, ileb_eq, ieqb_dec, indexAddrA, inB_dec, evPairs, storeA, AV.cellsOf, pairsOf, xI_nil, binBool, gcE, evOpt, isI64, pureLd, loadP, boxP, xI_block, xI_loopH, xI_condM, xI_exitM, xI_skip, xI_blk, exitA, ty4, indexAddrA, ty4, hc, h1, h1i, tyA, tgA]
theorem takeWhile_none {l : List UInt8} : l.dropWhile isBit = [] ↔ l.all isBit = true := by
  induction l with
  | nil => simp
  | cons x l ih => cases h : isBit x <;> simp [List.dropWhile_cons, h, ih]
theorem trim_none (l : List UInt8) : (((l.reverse.dropWhile isBit).reverse).dropWhile isBit == []) = l.all isBit := by
  have key : ((l.reverse.dropWhile isBit).reverse).dropWhile isBit = [] ↔ l.all isBit = true := by
    rw [takeWhile_none]
    constructor
    · intro h
      rw [List.all_reverse] at h
      have h2 : l.reverse.dropWhile isBit = [] := by
        cases hx : l.reverse.dropWhile isBit with
        | nil => rfl
        | cons y t =>
          have hy : isBit y = false := by
            have := List.head?_dropWhile_not isBit l.reverse
            rw [hx] at this
            simpa using this
          rw [hx] at h
          simp [hy] at h
      have h3 := takeWhile_none.1 h2
      rwa [List.all_reverse] at h3
    · intro h
      have h2 : l.reverse.dropWhile isBit = [] := takeWhile_none.2 (by rwa [List.all_reverse])
      rw [h2]; rfl
  rw [Bool.eq_iff_iff, beq_iff_eq]
  exact key

noncomputable def b46 : Code := Tryd.f46.body.getD .skip
noncomputable def B46_0 : Code := (bodyC (bodyC (fstC (sndC b46))))
noncomputable def K46_0 : List It := .lp B46_0 :: .blk 0 :: .code (sndC (sndC b46)) :: []
theorem xl46_0 {fi : FI} {env : Env} {σ : St} : exI TT fi K46_0 env σ = exI TT fi (.code B46_0 :: K46_0) env σ := by unfold K46_0; exact xI_lp
noncomputable def R46_0_0 : List It := .code (sndC (sndC b46)) :: []
theorem eK46_0_0 : exitA 0 K46_0 = some R46_0_0 := rfl
theorem l46 {σ : St} {b : Nat} {o : Bool} {z : Nat} (hb : σ.get b = some ⟨setA, z, o⟩) : ∀ l : List UInt8, l.length < 1000000 → exI TT (FI.of Tryd.f46 (TT.an 46)) K46_0 [(0, .str l), (1, .ptr b 0)] σ = some (.str (l.dropWhile isBit), σ) := by
  intro l
  induction l with
  | nil =>
    intro _
    rw [fi46]
    rw [xl46_0]
    simp only [B46_0, b46, Tryd.f46, Option.getD, fstC, sndC, bodyC, thnC, elsC]
    simp [xI_seq, xI_region, xI_ret, regA, regOps, runOps, opStep, wantedA, opA, evo, evos, calleeA, lk, nif_eq, putE, paramsE, valS, val2, keepE, restrict, finA, resA, binA, binInt, ofConst, ofConst1, loadA, TK.isAgg, asVar, unA, builtinA, lenOpA, lenA, ileb_cast, ileb_eq, ieqb_dec, indexAddrA, inB_dec, evPairs, storeA, AV.cellsOf, pairsOf, xI_nil, binBool, gcE, evOpt, tagZ, isI64, pureLd, loadP, boxP, xI_block, xI_loopH, xI_condM, xI_exitM, xI_skip, xI_blk, exitA, ty3, ty4, ty9, eK46_0_0, ty9]
    simp only [R46_0_0, b46, Tryd.f46, Option.getD, fstC, sndC, bodyC, thnC, elsC]
    simp [xI_seq, xI_region, xI_ret, regA, regOps, runOps, opStep, wantedA, opA, evo, evos, calleeA, lk, nif_eq, putE, paramsE, valS, val2, keepE, restrict, finA, resA, binA, binInt, ofConst, ofConst1, loadA, TK.isAgg, asVar, unA, builtinA, lenOpA, lenA, ileb_cast, ileb_eq, ieqb_dec, indexAddrA, inB_dec, evPairs, storeA, AV.cellsOf, pairsOf, xI_nil, binBool, gcE, evOpt, tagZ, isI64, pureLd, loadP, boxP, xI_block, xI_loopH, xI_condM, xI_exitM, xI_skip, xI_blk, exitA, ty3, ty4, ty9, eK46_0_0, ty9]
  | cons x l ih =>
    intro hl
    simp only [List.length_cons] at hl
    have hc := c57 hb x
    have hbd : (1 : Int) ≤ (l.length : Int) + 1 := by omega
    cases hx : isBit x with
    | false =>
      rw [hx] at hc
      rw [List.dropWhile_cons, if_neg (by simp [hx])]
      rw [fi46]
      rw [xl46_0]
      simp only [B46_0, b46, Tryd.f46, Option.getD, fstC, sndC, bodyC, thnC, elsC]
      simp [xI_seq, xI_region, xI_ret, regA, regOps, runOps, opStep, wantedA, opA, evo, evos, calleeA, lk, nif_eq, putE, paramsE, valS, val2, keepE, restrict, finA, resA, binA, binInt, ofConst, ofConst1, loadA, TK.isAgg, asVar, unA, builtinA, lenOpA, lenA, ileb_cast, ileb_eq, ieqb_dec, indexAddrA, inB_dec, evPairs, storeA, AV.cellsOf, pairsOf, xI_nil, binBool, gcE, evOpt, tagZ, isI64, pureLd, loadP, boxP, xI_block, xI_loopH, xI_condM, xI_exitM, xI_skip, xI_blk, exitA, ty3, ty4, ty9, eK46_0_0, ty9, indexA, sliceA, boundA, hc, hbd]
      simp only [R46_0_0, b46, Tryd.f46, Option.getD, fstC, sndC, bodyC, thnC, elsC]
      simp [xI_seq, xI_region, xI_ret, regA, regOps, runOps, opStep, wantedA, opA, evo, evos, calleeA, lk, nif_eq, putE, paramsE, valS, val2, keepE, restrict, finA, resA, binA, binInt, ofConst, ofConst1, loadA, TK.isAgg, asVar, unA, builtinA, lenOpA, lenA, ileb_cast, ileb_eq, ieqb_dec, indexAddrA, inB_dec, evPairs, storeA, AV.cellsOf, pairsOf, xI_nil, binBool, gcE, evOpt, tagZ, isI64, pureLd, loadP, boxP, xI_block, xI_loopH, xI_condM, xI_exitM, xI_skip, xI_blk, exitA, ty3, ty4, ty9, eK46_0_0, ty9, indexA, sliceA, boundA, hc, hbd]
    | true =>
      rw [hx] at hc
      have h1 := ih (by omega)
      rw [List.dropWhile_cons, if_pos hx]
      rw [fi46] at h1 ⊢
      rw [xl46_0]
      simp only [B46_0, b46, Tryd.f46, Option.getD, fstC, sndC, bodyC, thnC, elsC]
      simp [xI_seq, xI_region, xI_ret, regA, regOps, runOps, opStep, wantedA, opA, evo, evos, calleeA, lk, nif_eq, putE, paramsE, valS, val2, keepE, restrict, finA, resA, binA, binInt, ofConst, ofConst1, loadA, TK.isAgg, asVar, unA, builtinA, lenOpA, lenA, ileb_cast, ileb_eq, ieqb_dec, indexAddrA, inB_dec, evPairs, storeA, AV.cellsOf, pairsOf, xI_nil, binBool, gcE, evOpt, tagZ, isI64, pureLd, loadP, boxP, xI_block, xI_loopH, xI_condM, xI_exitM, xI_skip, xI_blk, exitA, ty3, ty4, ty9, eK46_0_0, ty9, indexA, sliceA, boundA, hc, hbd]
      exact h1
theorem c46 {σ : St} {b : Nat} {o : Bool} {z : Nat} (hb : σ.get b = some ⟨setA, z, o⟩) (l : List UInt8) (hl : l.length < 1000000) : callI TT 46 [.str l, .ptr b 0] σ = some (.str (l.dropWhile isBit), σ) := by
  have h1 := l46 hb l hl
  rw [cI_0 fn46 rfl md46, fi46]
  rw [fi46] at h1
  simp [xI_seq, xI_region, xI_ret, regA, regOps, runOps, opStep, wantedA, opA, evo, evos, calleeA, lk, nif_eq, putE, paramsE, valS, val2, keepE, restrict, finA, resA, binA, binInt, ofConst, ofConst1, loadA, TK.isAgg, asVar, unA, builtinA, lenOpA, lenA, ileb_cast, ileb_eq, ieqb_dec, indexAddrA, inB_dec, evPairs, storeA, AV.cellsOf, pairsOf, xI_nil, binBool, gcE, evOpt, tagZ, isI64, pureLd, loadP, boxP, xI_block, xI_loopH, xI_condM, xI_exitM, xI_skip, xI_blk, exitA, ty3, ty4, ty9, eK46_0_0]
  exact h1

noncomputable def b47 : Code := Tryd.f47.body.getD .skip
noncomputable def B47_0 : Code := (bodyC (bodyC (fstC (sndC b47))))
noncomputable def K47_0 : List It := .lp B47_0 :: .blk 0 :: .code (sndC (sndC b47)) :: []
theorem xl47_0 {fi : FI} {env : Env} {σ : St} : exI TT fi K47_0 env σ = exI TT fi (.code B47_0 :: K47_0) env σ := by unfold K47_0; exact xI_lp
noncomputable def R47_0_0 : List It := .code (sndC (sndC b47)) :: []
theorem eK47_0_0 : exitA 0 K47_0 = some R47_0_0 := rfl
theorem l47 {σ : St} {b : Nat} {o : Bool} {z : Nat} (hb : σ.get b = some ⟨setA, z, o⟩) : ∀ r : List UInt8, r.length < 1000000 → exI TT (FI.of Tryd.f47 (TT.an 47)) K47_0 [(0, .str r.reverse), (1, .ptr b 0)] σ = some (.str (r.dropWhile isBit).reverse, σ) := by
  intro r
  induction r with
  | nil =>
    intro _
    rw [fi47]
    rw [xl47_0]
    simp only [B47_0, b47, Tryd.f47, Option.getD, fstC, sndC, bodyC, thnC, elsC]
    simp [xI_seq, xI_region, xI_ret, regA, regOps, runOps, opStep, wantedA, opA, evo, evos, calleeA, lk, nif_eq, putE, paramsE, valS, val2, keepE, restrict, finA, resA, binA, binInt, ofConst, ofConst1, loadA, TK.isAgg, asVar, unA, builtinA, lenOpA, lenA, ileb_cast, ileb_eq, ieqb_dec, indexAddrA, inB_dec, evPairs, storeA, AV.cellsOf, pairsOf, xI_nil, binBool, gcE, evOpt, tagZ, isI64, pureLd, loadP, boxP, xI_block, xI_loopH, xI_condM, xI_exitM, xI_skip, xI_blk, exitA, ty3, ty4, ty9, eK47_0_0, ty9]
    simp only [R47_0_0, b47, Tryd.f47, Option.getD, fstC, sndC, bodyC, thnC, elsC]
    simp [xI_seq, xI_region, xI_ret, regA, regOps, runOps, opStep, wantedA, opA, evo, evos, calleeA, lk, nif_eq, putE, paramsE, valS, val2, keepE, restrict, finA, resA, binA, binInt, ofConst, ofConst1, loadA, TK.isAgg, asVar, unA, builtinA, lenOpA, lenA, ileb_cast, ileb_eq, ieqb_dec, indexAddrA, inB_dec, evPairs, storeA, AV.cellsOf, pairsOf, xI_nil, binBool, gcE, evOpt, tagZ, isI64, pureLd, loadP, boxP, xI_block, xI_loopH, xI_condM, xI_exitM, xI_skip, xI_blk, exitA, ty3, ty4, ty9, eK47_0_0, ty9]
  | cons x r ih =>
    intro hl
    simp only [List.length_cons] at hl
    have hc := c57 hb x
    have hw : wrapA .i64 (((r.length : Nat) : Int) + 1 - 1) = ((r.length : Nat) : Int) := by rw [wrapA_id (by omega) (by omega)]; omega
    have hw2 : wrapA .i64 ((r.length : Nat) : Int) = ((r.length : Nat) : Int) := wrapA_id (by omega) (by omega)
    have hbd : ((r.length : Nat) : Int) ≤ (r.length : Int) + 1 := by omega
    have hn : ¬ ((r.length : Int) + 1 ≤ 0) := by omega
    have hget : (r.reverse ++ [x])[r.length]? = some x := by rw [List.getElem?_append_right (by simp)]; simp
    have htk : (r.reverse ++ [x]).take r.length = r.reverse := by rw [List.take_append_of_le_length (by simp)]; exact List.take_of_length_le (by simp)
    cases hx : isBit x with
    | false =>
      rw [hx] at hc
      rw [List.dropWhile_cons, if_neg (by simp [hx]), List.reverse_cons]
      rw [fi47]
      rw [xl47_0]
      simp only [B47_0, b47, Tryd.f47, Option.getD, fstC, sndC, bodyC, thnC, elsC]
      simp [xI_seq, xI_region, xI_ret, regA, regOps, runOps, opStep, wantedA, opA, evo, evos, calleeA, lk, nif_eq, putE, paramsE, valS, val2, keepE, restrict, finA, resA, binA, binInt, ofConst, ofConst1, loadA, TK.isAgg, asVar, unA, builtinA, lenOpA, lenA, ileb_cast, ileb_eq, ieqb_dec, indexAddrA, inB_dec, evPairs, storeA, AV.cellsOf, pairsOf, xI_nil, binBool, gcE, evOpt, tagZ, isI64, pureLd, loadP, boxP, xI_block, xI_loopH, xI_condM, xI_exitM, xI_skip, xI_blk, exitA, ty3, ty4, ty9, eK47_0_0, ty9, indexA, sliceA, boundA, hc, hw, hw2, hn, hget, htk, hbd]
      simp only [R47_0_0, b47, Tryd.f47, Option.getD, fstC, sndC, bodyC, thnC, elsC]
      simp [xI_seq, xI_region, xI_ret, regA, regOps, runOps, opStep, wantedA, opA, evo, evos, calleeA, lk, nif_eq, putE, paramsE, valS, val2, keepE, restrict, finA, resA, binA, binInt, ofConst, ofConst1, loadA, TK.isAgg, asVar, unA, builtinA, lenOpA, lenA, ileb_cast, ileb_eq, ieqb_dec, indexAddrA, inB_dec, evPairs, storeA, AV.cellsOf, pairsOf, xI_nil, binBool, gcE, evOpt, tagZ, isI64, pureLd, loadP, boxP, xI_block, xI_loopH, xI_condM, xI_exitM, xI_skip, xI_blk, exitA, ty3, ty4, ty9, eK47_0_0, ty9, indexA, sliceA, boundA, hc, hw, hw2, hn, hget, htk, hbd]
    | true =>
      rw [hx] at hc
      have h1 := ih (by omega)
      rw [List.dropWhile_cons, if_pos hx, List.reverse_cons]
      rw [fi47] at h1 ⊢
      rw [xl47_0]
      simp only [B47_0, b47, Tryd.f47, Option.getD, fstC, sndC, bodyC, thnC, elsC]
      simp [xI_seq, xI_region, xI_ret, regA, regOps, runOps, opStep, wantedA, opA, evo, evos, calleeA, lk, nif_eq, putE, paramsE, valS, val2, keepE, restrict, finA, resA, binA, binInt, ofConst, ofConst1, loadA, TK.isAgg, asVar, unA, builtinA, lenOpA, lenA, ileb_cast, ileb_eq, ieqb_dec, indexAddrA, inB_dec, evPairs, storeA, AV.cellsOf, pairsOf, xI_nil, binBool, gcE, evOpt, tagZ, isI64, pureLd, loadP, boxP, xI_block, xI_loopH, xI_condM, xI_exitM, xI_skip, xI_blk, exitA, ty3, ty4, ty9, eK47_0_0, ty9, indexA, sliceA, boundA, hc, hw, hw2, hn, hget, htk, hbd]
      exact h1
theorem c47 {σ : St} {b : Nat} {o : Bool} {z : Nat} (hb : σ.get b = some ⟨setA, z, o⟩) (l : List UInt8) (hl : l.length < 1000000) : callI TT 47 [.str l, .ptr b 0] σ = some (.str (l.reverse.dropWhile isBit).reverse, σ) := by
  have h1 := l47 hb l.reverse (by simpa using hl)
  rw [List.reverse_reverse] at h1
  rw [cI_0 fn47 rfl md47, fi47]
  rw [fi47] at h1
  simp [xI_seq, xI_region, xI_ret, regA, regOps, runOps, opStep, wantedA, opA, evo, evos, calleeA, lk, nif_eq, putE, paramsE, valS, val2, keepE, restrict, finA, resA, binA, binInt, ofConst, ofConst1, loadA, TK.isAgg, asVar, unA, builtinA, lenOpA, lenA, ileb_cast, ileb_eq, ieqb_dec, indexAddrA, inB_dec, evPairs, storeA, AV.cellsOf, pairsOf, xI_nil, binBool, gcE, evOpt, tagZ, isI64, pureLd, loadP, boxP, xI_block, xI_loopH, xI_condM, xI_exitM, xI_skip, xI_blk, exitA, ty3, ty4, ty9, eK47_0_0]
  exact h1

theorem setA_one : allOne setA = true := by kernel_rfl
theorem setA_len : setA.length = 256 := by simp [setA]
theorem k28 (l r : List UInt8) (z0 : List AV) (σ1 : St) (hl : ¬ l = []) (c1 : ∀ σ, callI TT 45 [.str [48, 49]] σ = some (.tup [.agg setA, .bool true], σ)) (s1 : storeCellsA ((⟨[], 0⟩ : St).push ⟨zA, 256, false⟩) 0 0 setA = some σ1) (c2 : callI TT 47 [.str l, .ptr 0 0] σ1 = some (.str r, σ1)) (r2 : List UInt8) (c3 : callI TT 46 [.str r, .ptr 0 0] σ1 = some (.str r2, σ1)) :
    exI TT (FI.of Tryd.f28 (TT.an 28)) [.code (Tryd.f28.body.getD .skip)] (paramsE 0 [.str l, .str [48, 49]]) ⟨[], 0⟩ = some (.str r2, σ1) := by
  have hz : (l == ([] : List UInt8)) = false := by simpa using hl
  have hlen := setA_len
  rw [fi28]
  simp only [Tryd.f28, Option.getD]
  simp [xI_seq, xI_region, xI_ret, regA, regOps, runOps, opStep, wantedA, opA, evo, evos, calleeA, lk, nif_eq, putE, paramsE, valS, val2, keepE, restrict, finA, resA, binA, binInt, ofConst, ofConst1, loadA, TK.isAgg, asVar, unA, builtinA, lenOpA, lenA, ileb_cast, ileb_eq, ieqb_dec, indexAddrA, inB_dec, evPairs, storeA, AV.cellsOf, pairsOf, xI_nil, binBool, gcE, evOpt, isI64, pureLd, loadP, boxP, xI_block, xI_loopH, xI_condM, xI_exitM, xI_skip, xI_blk, exitA, ty3, ty5, ty9, runTr, pairsOk, pairOk, lstAt, lastOf, sameVal, AV.eqv, eqvs, eqvs_ints, regOps, blt_dec, cond_true, cond_false, allOne, AV.one, n_push, ty9, ty4, binStr, indexA, hz, hl, hlen, c1, s1, c2, c3, tyA, tgA]
theorem k28n : exI TT (FI.of Tryd.f28 (TT.an 28)) [.code (Tryd.f28.body.getD .skip)] (paramsE 0 [.str [], .str [48, 49]]) ⟨[], 0⟩ = some (.str [], ⟨[], 0⟩) := by
  rw [fi28]
  simp only [Tryd.f28, Option.getD]
  simp [xI_seq, xI_region, xI_ret, regA, regOps, runOps, opStep, wantedA, opA, evo, evos, calleeA, lk, nif_eq, putE, paramsE, valS, val2, keepE, restrict, finA, resA, binA, binInt, ofConst, ofConst1, loadA, TK.isAgg, asVar, unA, builtinA, lenOpA, lenA, ileb_cast, ileb_eq, ieqb_dec, indexAddrA, inB_dec, evPairs, storeA, AV.cellsOf, pairsOf, xI_nil, binBool, gcE, evOpt, isI64, pureLd, loadP, boxP, xI_block, xI_loopH, xI_condM, xI_exitM, xI_skip, xI_blk, exitA, ty3, ty5, ty9, runTr, pairsOk, pairOk, lstAt, lastOf, sameVal, AV.eqv, eqvs, eqvs_ints, regOps, blt_dec, cond_true, cond_false, ty9, binStr, tyA, tgA]
theorem v28 (l : List UInt8) (hl : l.length < 1000000) : FnV TT 28 [.str l, .str [48, 49]] (.str (((l.reverse.dropWhile isBit).reverse).dropWhile isBit)) := by
  by_cases h0 : l = []
  · subst h0
    exact FnV.mk (c := Tryd.f28.body.getD .skip) fn28 rfl md28 ⟨⟨[], 0⟩, k28n⟩ (fun _ => rfl) rfl
  · have hg0 : ((⟨[], 0⟩ : St).push ⟨zA, 256, false⟩).get 0 = some ⟨zA, 256, false⟩ := rfl
    have s1 : storeCellsA ((⟨[], 0⟩ : St).push ⟨zA, 256, false⟩) 0 0 setA = some (((⟨[], 0⟩ : St).push ⟨zA, 256, false⟩).set 0 ⟨setA, 256, false⟩) := by
      rw [storeCellsA_eq, hg0]
      simp only
      rw [if_pos ⟨by rw [setA_len, zA_len]; decide, setA_one⟩]
      have hput : putCells zA 0 setA = setA := by rw [putCells, List.take_zero, List.nil_append, List.drop_of_length_le (by rw [setA_len, zA_len]; decide), List.append_nil]
      rw [hput]
    have hg1 : (((⟨[], 0⟩ : St).push ⟨zA, 256, false⟩).set 0 ⟨setA, 256, false⟩).get 0 = some ⟨setA, 256, false⟩ := get_set_eq hg0
    have hlen2 : ((l.reverse.dropWhile isBit).reverse).length < 1000000 := by
      have := (List.dropWhile_sublist isBit (l := l.reverse)).length_le
      simp at this ⊢
      omega
    exact FnV.mk (c := Tryd.f28.body.getD .skip) fn28 rfl md28 ⟨_, k28 l _ [] _ h0 (fun σ => r45 σ _ rfl) s1 (c47 hg1 l hl) _ (c46 hg1 _ hlen2)⟩ (fun _ => rfl) rfl

theorem v13 (l : List UInt8) (hl : l.length ≤ 9223372036854775807) : FnV TT 13 [.str l] (.bool (isBits l)) := by
  refine FnV.mk fn13 rfl md13 ⟨⟨[], 0⟩, ?_⟩ (fun _ => rfl) rfl
  rw [fi13]
  by_cases h : l.length ≤ 400
  · have hc : callI TT 28 [.str l, .str [48, 49]] ⟨[], 0⟩ = some (.str (((l.reverse.dropWhile isBit).reverse).dropWhile isBit), ⟨[], 0⟩) := v28 l (by omega) _ _ rfl
    have ht := trim_none l
    have h' : (l.length : Int) ≤ 400 := by omega
    simp [xI_seq, xI_region, xI_ret, regA, regOps, runOps, opStep, wantedA, opA, evo, evos, calleeA, lk, nif_eq, putE, paramsE, valS, val2, keepE, restrict, finA, resA, binA, binInt, ofConst, ofConst1, loadA, TK.isAgg, asVar, unA, builtinA, lenOpA, lenA, ileb_cast, ileb_eq, ieqb_dec, indexAddrA, inB_dec, evPairs, storeA, AV.cellsOf, pairsOf, xI_nil, binBool, gcE, evOpt, tagZ, isI64, pureLd, loadP, boxP, xI_block, xI_loopH, xI_condM, xI_exitM, xI_skip, xI_blk, exitA, ty3, ty9, ty9, binStr, hc, h, h']
    simp only [isBits, h, decide_true, Bool.true_and]
    rw [← ht]
    simp
  · have h' : ¬ (l.length : Int) ≤ 400 := by omega
    simp [xI_seq, xI_region, xI_ret, regA, regOps, runOps, opStep, wantedA, opA, evo, evos, calleeA, lk, nif_eq, putE, paramsE, valS, val2, keepE, restrict, finA, resA, binA, binInt, ofConst, ofConst1, loadA, TK.isAgg, asVar, unA, builtinA, lenOpA, lenA, ileb_cast, ileb_eq, ieqb_dec, indexAddrA, inB_dec, evPairs, storeA, AV.cellsOf, pairsOf, xI_nil, binBool, gcE, evOpt, tagZ, isI64, pureLd, loadP, boxP, xI_block, xI_loopH, xI_condM, xI_exitM, xI_skip, xI_blk, exitA, ty3, ty9, ty9, binStr, h, h']
    simp [isBits, h]
theorem c13 (l : List UInt8) (hl : l.length ≤ 9223372036854775807) (σ : St) : callI TT 13 [.str l] σ = some (.bool (isBits l), σ) := v13 l hl σ _ rfl

theorem v5 (l : List Nat) (hl : ∀ x ∈ l, x < 256) (hll : l.length ≤ 1000) (k : Nat) (hk : k ≤ 100000) (n : Nat) (hn : n ≤ 1000000000) : ∃ r : Nat, r < max 1 n ∧ FnV TT 5 [.lst l.length (byts l), .int .i64 k, .int .i64 n] (.int .i64 r) := by
  by_cases h1 : n ≤ 1
  · have h1' : (n : Int) ≤ 1 := by omega
    refine ⟨0, by omega, FnV.mk fn5 rfl md5 ⟨⟨[], 0⟩, ?_⟩ (fun _ => rfl) rfl⟩
    rw [fi5]
    simp [xI_seq, xI_region, xI_ret, regA, regOps, runOps, opStep, wantedA, opA, evo, evos, calleeA, lk, nif_eq, putE, paramsE, valS, val2, keepE, restrict, finA, resA, binA, binInt, ofConst, ofConst1, loadA, TK.isAgg, asVar, unA, builtinA, lenOpA, lenA, ileb_cast, ileb_eq, ieqb_dec, indexAddrA, inB_dec, evPairs, storeA, AV.cellsOf, pairsOf, xI_nil, binBool, gcE, evOpt, tagZ, isI64, pureLd, loadP, boxP, xI_block, xI_loopH, xI_condM, xI_exitM, xI_skip, xI_blk, exitA, ty2, ty5, ty22, h1, h1']
  · have h1' : ¬ (n : Int) ≤ 1 := by omega
    by_cases h2 : l.length ≤ k
    · refine ⟨0, by omega, FnV.mk fn5 rfl md5 ⟨⟨[], 0⟩, ?_⟩ (fun _ => rfl) rfl⟩
      rw [fi5]
      simp [xI_seq, xI_region, xI_ret, regA, regOps, runOps, opStep, wantedA, opA, evo, evos, calleeA, lk, nif_eq, putE, paramsE, valS, val2, keepE, restrict, finA, resA, binA, binInt, ofConst, ofConst1, loadA, TK.isAgg, asVar, unA, builtinA, lenOpA, lenA, ileb_cast, ileb_eq, ieqb_dec, indexAddrA, inB_dec, evPairs, storeA, AV.cellsOf, pairsOf, xI_nil, binBool, gcE, evOpt, tagZ, isI64, pureLd, loadP, boxP, xI_block, xI_loopH, xI_condM, xI_exitM, xI_skip, xI_blk, exitA, ty2, ty5, ty22, h1, h1', h2]
    · have h2' : k < l.length := by omega
      obtain ⟨b, hb⟩ : ∃ b, l[k]? = some b := ⟨l[k], List.getElem?_eq_getElem h2'⟩
      have hb2 : b < 256 := hl b (List.mem_of_getElem? hb)
      have kb : ∀ σ, cellsAt σ (.lp (byts l) k) 1 = some [.int .u8 b] := fun σ => getCells_byt hb
      have u1 : wrapA .i64 (b : Int) = b := n_wrap (by omega)
      have h0 : ¬ (n : Int) = 0 := by omega
      have h00 : ¬ n = 0 := by omega
      have w3 : (b : Int).tmod (n : Int) = ((modN b n : Nat) : Int) := rfl
      have w4 : (b : Int) % (n : Int) = ((modN b n : Nat) : Int) := rfl
      have w5 : modN b n < n := Nat.mod_lt _ (by omega)
      refine ⟨modN b n, by omega, FnV.mk fn5 rfl md5 ⟨⟨[], 0⟩, ?_⟩ (fun _ => rfl) rfl⟩
      rw [fi5]
      simp [xI_seq, xI_region, xI_ret, regA, regOps, runOps, opStep, wantedA, opA, evo, evos, calleeA, lk, nif_eq, putE, paramsE, valS, val2, keepE, restrict, finA, resA, binA, binInt, ofConst, ofConst1, loadA, TK.isAgg, asVar, unA, builtinA, lenOpA, lenA, ileb_cast, ileb_eq, ieqb_dec, indexAddrA, inB_dec, evPairs, storeA, AV.cellsOf, pairsOf, xI_nil, binBool, gcE, evOpt, tagZ, isI64, pureLd, loadP, boxP, xI_block, xI_loopH, xI_condM, xI_exitM, xI_skip, xI_blk, exitA, ty2, ty5, ty22, h1, h1', h2, h2', kb, u1, h0, h00, w3, w4, convA, ty5]

theorem v4 (a b : List Nat) : FnV TT 4 [.lst a.length (byts a), .lst b.length (byts b)] (.bool (decide (48 < a.length) || decide (48 < b.length))) := by
  refine FnV.mk fn4 rfl md4 ⟨⟨[], 0⟩, ?_⟩ (fun _ => rfl) rfl
  rw [fi4]
  by_cases h1 : 48 < a.length
  · have h1' : (48 : Int) < a.length := by omega
    have h1'' : ¬ (a.length : Int) ≤ 48 := by omega
    simp [xI_seq, xI_region, xI_ret, regA, regOps, runOps, opStep, wantedA, opA, evo, evos, calleeA, lk, nif_eq, putE, paramsE, valS, val2, keepE, restrict, finA, resA, binA, binInt, ofConst, ofConst1, loadA, TK.isAgg, asVar, unA, builtinA, lenOpA, lenA, ileb_cast, ileb_eq, ieqb_dec, indexAddrA, inB_dec, evPairs, storeA, AV.cellsOf, pairsOf, xI_nil, binBool, gcE, evOpt, tagZ, isI64, pureLd, loadP, boxP, xI_block, xI_loopH, xI_condM, xI_exitM, xI_skip, xI_blk, exitA, ty3, ty5, ty22, h1, h1', h1'']
  · have h1' : ¬ (48 : Int) < a.length := by omega
    have h1'' : (a.length : Int) ≤ 48 := by omega
    by_cases h2 : 48 < b.length
    · have h2' : (48 : Int) < b.length := by omega
      have h2'' : ¬ (b.length : Int) ≤ 48 := by omega
      simp [xI_seq, xI_region, xI_ret, regA, regOps, runOps, opStep, wantedA, opA, evo, evos, calleeA, lk, nif_eq, putE, paramsE, valS, val2, keepE, restrict, finA, resA, binA, binInt, ofConst, ofConst1, loadA, TK.isAgg, asVar, unA, builtinA, lenOpA, lenA, ileb_cast, ileb_eq, ieqb_dec, indexAddrA, inB_dec, evPairs, storeA, AV.cellsOf, pairsOf, xI_nil, binBool, gcE, evOpt, tagZ, isI64, pureLd, loadP, boxP, xI_block, xI_loopH, xI_condM, xI_exitM, xI_skip, xI_blk, exitA, ty3, ty5, ty22, h1, h1', h1'', h2, h2', h2'']
    · have h2' : ¬ (48 : Int) < b.length := by omega
      have h2'' : (b.length : Int) ≤ 48 := by omega
      simp [xI_seq, xI_region, xI_ret, regA, regOps, runOps, opStep, wantedA, opA, evo, evos, calleeA, lk, nif_eq, putE, paramsE, valS, val2, keepE, restrict, finA, resA, binA, binInt, ofConst, ofConst1, loadA, TK.isAgg, asVar, unA, builtinA, lenOpA, lenA, ileb_cast, ileb_eq, ieqb_dec, indexAddrA, inB_dec, evPairs, storeA, AV.cellsOf, pairsOf, xI_nil, binBool, gcE, evOpt, tagZ, isI64, pureLd, loadP, boxP, xI_block, xI_loopH, xI_condM, xI_exitM, xI_skip, xI_blk, exitA, ty3, ty5, ty22, h1, h1', h1'', h2, h2', h2'']

def RGB (σ : St) (D : Nat) (a b : Int) : Prop := σ.get D = some ⟨[.int .i64 a, .int .i64 b], 2, false⟩
theorem RGB.keep {σ σ' : St} {D : Nat} {a b : Int} (h : RGB σ D a b) (e : σ'.get D = σ.get D) : RGB σ' D a b := by unfold RGB; rw [e]; exact h
theorem RGB.c0 {σ : St} {D : Nat} {a b : Int} (h : RGB σ D a b) : cellsAt σ (.ptr D 0) 1 = some [.int .i64 a] := by simp [cellsAt, (show σ.get D = _ from h), getCells, takeN, dropN]
theorem RGB.c1 {σ : St} {D : Nat} {a b : Int} (h : RGB σ D a b) : cellsAt σ (.ptr D 1) 1 = some [.int .i64 b] := by simp [cellsAt, (show σ.get D = _ from h), getCells, takeN, dropN]
theorem RGB.cc {σ : St} {D : Nat} {a b : Int} (h : RGB σ D a b) : cellsAt σ (.ptr D 0) 2 = some [.int .i64 a, .int .i64 b] := by simp [cellsAt, (show σ.get D = _ from h), getCells, takeN, dropN]
theorem RGB.s1 {σ : St} {D : Nat} {a b : Int} (h : RGB σ D a b) (y : Int) : ∃ σ', storeCellsA σ D 1 [.int .i64 y] = some σ' ∧ RGB σ' D a y ∧ σ'.n = σ.n ∧ ∀ d, d ≠ D → σ'.get d = σ.get d := by
  refine ⟨σ.set D ⟨[.int .i64 a, .int .i64 y], 2, false⟩, ?_, get_set_eq h, rfl, fun d hd => get_set_ne (fun e => hd e.symm)⟩
  simp [storeCellsA, (show σ.get D = _ from h), putN, overN, allOne, AV.one]
theorem RGB.s2 {σ : St} {D : Nat} {a b : Int} (h : RGB σ D a b) (x y : Int) : ∃ σ', storeCellsA σ D 0 [.int .i64 x, .int .i64 y] = some σ' ∧ RGB σ' D x y ∧ σ'.n = σ.n ∧ ∀ d, d ≠ D → σ'.get d = σ.get d := by
  refine ⟨σ.set D ⟨[.int .i64 x, .int .i64 y], 2, false⟩, ?_, get_set_eq h, rfl, fun d hd => get_set_ne (fun e => hd e.symm)⟩
  simp [storeCellsA, (show σ.get D = _ from h), putN, overN, allOne, AV.one]

/-- Sums over the numbers below n. -/
def sm (f : Nat → Nat) : Nat → Nat
  | 0 => 0
  | n + 1 => sm f n + f n
theorem sm_congr {f g : Nat → Nat} : ∀ n, (∀ i, i < n → f i = g i) → sm f n = sm g n
  | 0, _ => rfl
  | n + 1, h => by rw [sm, sm, sm_congr n (fun i hi => h i (by omega)), h n (by omega)]
theorem sm_add (f g : Nat → Nat) : ∀ n, sm (fun i => f i + g i) n = sm f n + sm g n
  | 0 => rfl
  | n + 1 => by rw [sm, sm, sm, sm_add f g n]; omega
theorem sm_app (f : Nat → Nat) (a : Nat) : ∀ b, sm f (a + b) = sm f a + sm (fun i => f (a + i)) b
  | 0 => rfl
  | b + 1 => by
    show sm f (a + b) + f (a + b) = _
    rw [sm_app f a b, sm]; omega
theorem sm_two (f : Nat → Nat) : ∀ n, sm f (2 * n) = sm (fun i => f (2 * i) + f (2 * i + 1)) n
  | 0 => rfl
  | n + 1 => by
    rw [show 2 * (n + 1) = 2 * n + 1 + 1 by omega, sm, sm, sm_two f n, sm]; omega
theorem sm_const (c : Nat) : ∀ n, sm (fun _ => c) n = n * c
  | 0 => by rw [Nat.zero_mul]; rfl
  | n + 1 => by rw [sm, sm_const c n, Nat.succ_mul]
theorem sm_swap (f : Nat → Nat → Nat) (n : Nat) : ∀ m, sm (fun i => sm (f i) n) m = sm (fun j => sm (fun i => f i j) m) n
  | 0 => by
    have : ∀ n, sm (fun _ : Nat => 0) n = 0 := fun n => by rw [sm_const]; exact Nat.mul_zero n
    show 0 = sm (fun j => 0) n
    rw [this]
  | m + 1 => by
    rw [sm, sm_swap f n m, ← sm_add]
    exact sm_congr n fun j _ => rfl
/-- The last bits of a number as a text. -/
def bsOf : Nat → Nat → List UInt8
  | 0, _ => []
  | n + 1, v => (if v / 2 ^ n % 2 = 1 then 49 else 48) :: bsOf n v
theorem bsOf_length : ∀ n v, (bsOf n v).length = n
  | 0, _ => rfl
  | n + 1, v => by simp [bsOf, bsOf_length n v]
theorem bsOf_bits : ∀ n v, (bsOf n v).all isBit = true
  | 0, _ => rfl
  | n + 1, v => by
    rw [bsOf, List.all_cons, bsOf_bits n v, Bool.and_true]
    split <;> rfl
theorem bsOf_high (m n : Nat) : ∀ j, j ≤ m → bsOf j (2 ^ m + n) = bsOf j n
  | 0, _ => rfl
  | j + 1, h => by
    have e : 2 ^ m = 2 ^ j * (2 * 2 ^ (m - j - 1)) := by
      rw [← Nat.mul_assoc, ← Nat.pow_succ, ← Nat.pow_add]; congr 1; omega
    have e2 : (2 ^ m + n) / 2 ^ j % 2 = n / 2 ^ j % 2 := by
      rw [e, Nat.mul_add_div (Nat.two_pow_pos j), Nat.mul_add_mod]
    rw [bsOf, bsOf, bsOf_high m n j (by omega), e2]

end Go.Proofs.YtjecbjnckbihoaaDoor
