/- Law: samples and reservoirs counted. Nothing is claimed here; no condition. -/
import Derived.Test.YtaniaeefijgaiaaCt
import Derived.Test.YtaniaeefijgaiaaCv
import Derived.Test.YtaniaeefijgaiaaDa
import Derived.Test.YtaniaeefijgaiaaCe
import Derived.Test.YtaniaeefijgaiaaWx
namespace Go.Proofs.Ytaniaeefijgaiaa
open Go Go.Abs
set_option linter.unusedSimpArgs false
set_option linter.unusedVariables false
/-- A cell of a list. -/
def at0 (l : List Int) (i : Nat) : Int := l.getD i 0
theorem at0_mem {l : List Int} {i : Nat} (h : i < l.length) : at0 l i ∈ l := by simp [at0, List.getD_eq_getElem?_getD, h]
theorem at0_some {l : List Int} {i : Nat} (h : i < l.length) : l[i]? = some (at0 l i) := by simp [at0, List.getD_eq_getElem?_getD, h]
theorem at0_of {l : List Int} {i : Nat} {x : Int} (h : l[i]? = some x) : at0 l i = x := by simp [at0, List.getD_eq_getElem?_getD, h]
theorem at0_set (z : List Int) (a b : Nat) (x : Int) (h : a < z.length) : at0 (z.set a x) b = if b = a then x else at0 z b := by
  simp only [at0, List.getD_eq_getElem?_getD, List.getElem?_set]
  by_cases h1 : b = a
  · subst h1; simp [h]
  · have : ¬ a = b := fun e => h1 e.symm
    simp [h1, this]
theorem ileb_t {a b : Int} (h : a ≤ b) : ileb a b = true := by rw [ileb_eq]; exact decide_eq_true h
theorem ileb_f {a b : Int} (h : b < a) : ileb a b = false := by rw [ileb_eq]; exact decide_eq_false (by omega)
theorem ieqb_t {a b : Int} (h : a = b) : ieqb a b = true := by rw [ieqb_dec]; exact decide_eq_true h
theorem ieqb_f {a b : Int} (h : a ≠ b) : ieqb a b = false := by rw [ieqb_dec]; exact decide_eq_false h
theorem ieqb_self {a : Int} : ieqb a a = true := ieqb_t rfl
theorem inB_t {n : Int} {len : Nat} (h : 0 ≤ n) (h2 : n < len) : inB n len = true := by rw [inB_dec]; exact decide_eq_true ⟨h, h2⟩
theorem lp_read {l : List Int} {i : Nat} {σ : St} (h : i < l.length) : cellsAt σ (.lp (ints l) i) 1 = some [.int .i64 (at0 l i)] := lst_read (at0_some h)
theorem row_rd {σ : St} {b i : Nat} {l : List Int} (h : Row σ b l) (hi : i < l.length) : cellsAt σ (.ptr b i) 1 = some [.int .i64 (at0 l i)] := h.read (at0_some hi)

theorem v55 (n m : Nat) (xs ys : List AV) : FnV TT 55 [.lst n xs, .lst m ys] (.bool (decide (1048576 < n) || decide (1048576 < m))) := by
  refine FnV.mk fn55 rfl md55 ⟨⟨[], 0⟩, ?_⟩ (fun _ => rfl) rfl
  rw [fi55]
  by_cases h : 1048576 < n
  · have h' : ¬ (n : Int) ≤ 1048576 := by omega
    simp [xI_seq, xI_region, xI_ret, regA, regOps, runOps, opStep, wantedA, opA, evo, evos, calleeA, lk, nif_eq, putE, paramsE, valS, val2, keepE, restrict, finA, resA, binA, binInt, ofConst, ofConst1, loadA, TK.isAgg, asVar, unA, builtinA, lenOpA, lenA, ileb_cast, ileb_eq, ieqb_dec, indexAddrA, inB_dec, evPairs, storeA, AV.cellsOf, pairsOf, xI_nil, binBool, gcE, evOpt, xI_block, xI_loopH, xI_condM, xI_exitM, xI_skip, xI_blk, exitA, ty3, ty5, ty45, h, h']
  · have h' : (n : Int) ≤ 1048576 := by omega
    by_cases h2 : 1048576 < m
    · have h2' : ¬ (m : Int) ≤ 1048576 := by omega
      simp [xI_seq, xI_region, xI_ret, regA, regOps, runOps, opStep, wantedA, opA, evo, evos, calleeA, lk, nif_eq, putE, paramsE, valS, val2, keepE, restrict, finA, resA, binA, binInt, ofConst, ofConst1, loadA, TK.isAgg, asVar, unA, builtinA, lenOpA, lenA, ileb_cast, ileb_eq, ieqb_dec, indexAddrA, inB_dec, evPairs, storeA, AV.cellsOf, pairsOf, xI_nil, binBool, gcE, evOpt, xI_block, xI_loopH, xI_condM, xI_exitM, xI_skip, xI_blk, exitA, ty3, ty5, ty45, h, h', h2, h2']
    · have h2' : (m : Int) ≤ 1048576 := by omega
      simp [xI_seq, xI_region, xI_ret, regA, regOps, runOps, opStep, wantedA, opA, evo, evos, calleeA, lk, nif_eq, putE, paramsE, valS, val2, keepE, restrict, finA, resA, binA, binInt, ofConst, ofConst1, loadA, TK.isAgg, asVar, unA, builtinA, lenOpA, lenA, ileb_cast, ileb_eq, ieqb_dec, indexAddrA, inB_dec, evPairs, storeA, AV.cellsOf, pairsOf, xI_nil, binBool, gcE, evOpt, xI_block, xI_loopH, xI_condM, xI_exitM, xI_skip, xI_blk, exitA, ty3, ty5, ty45, h, h', h2, h2']

theorem v56 (l : List Nat) (hl : ∀ x ∈ l, x < 256) (i n : Nat) (hn2 : n < 1000000) (hi : i < 1000000) : ∃ r : Nat, r < max 1 n ∧ FnV TT 56 [.lst l.length (byts l), .int .i64 i, .int .i64 n] (.int .i64 r) := by
  by_cases h1 : n ≤ 1
  · have h1' : (n : Int) ≤ 1 := by omega
    refine ⟨0, by omega, FnV.mk fn56 rfl md56 ⟨⟨[], 0⟩, ?_⟩ (fun _ => rfl) rfl⟩
    rw [fi56]
    simp [xI_seq, xI_region, xI_ret, regA, regOps, runOps, opStep, wantedA, opA, evo, evos, calleeA, lk, nif_eq, putE, paramsE, valS, val2, keepE, restrict, finA, resA, binA, binInt, ofConst, ofConst1, loadA, TK.isAgg, asVar, unA, builtinA, lenOpA, lenA, ileb_cast, ileb_eq, ieqb_dec, indexAddrA, inB_dec, evPairs, storeA, AV.cellsOf, pairsOf, xI_nil, binBool, gcE, evOpt, xI_block, xI_loopH, xI_condM, xI_exitM, xI_skip, xI_blk, exitA, ty2, ty5, ty45, h1, h1']
  have hn : 1 < n := by omega
  have h0 : ¬ (n : Int) ≤ 1 := by omega
  by_cases hil : i < l.length
  · obtain ⟨x, hx⟩ : ∃ x, l[i]? = some x := ⟨_, List.getElem?_eq_getElem hil⟩
    have hx2 : x < 256 := hl x (List.mem_of_getElem? hx)
    have hr : cellsAt (⟨[], 0⟩ : St) (.lp (byts l) i) 1 = some [.int .u8 x] := getCells_byt hx
    have hil2 : ¬ l.length ≤ i := by omega
    have hw : wrapA .i64 (x : Int) = x := wrapA_id (by omega) (by omega)
    have hm : (x : Int).tmod n = (x % n : Nat) := by rw [Int.tmod_eq_emod_of_nonneg (by omega)]; simp
    have hne : ¬ (n : Int) = 0 := by omega
    have hne2 : ¬ n = 0 := by omega
    have hlt := Nat.mod_lt x (show 0 < n by omega)
    refine ⟨x % n, by omega, FnV.mk fn56 rfl md56 ⟨⟨[], 0⟩, ?_⟩ (fun _ => rfl) rfl⟩
    rw [fi56]
    simp [xI_seq, xI_region, xI_ret, regA, regOps, runOps, opStep, wantedA, opA, evo, evos, calleeA, lk, nif_eq, putE, paramsE, valS, val2, keepE, restrict, finA, resA, binA, binInt, ofConst, ofConst1, loadA, TK.isAgg, asVar, unA, builtinA, lenOpA, lenA, ileb_cast, ileb_eq, ieqb_dec, indexAddrA, inB_dec, evPairs, storeA, AV.cellsOf, pairsOf, xI_nil, binBool, gcE, evOpt, xI_block, xI_loopH, xI_condM, xI_exitM, xI_skip, xI_blk, exitA, ty2, ty5, ty45, h0, hil, hil2, hr, convA, hw, hm, hne, hne2, ty5]
  · have hil2 : l.length ≤ i := by omega
    have hw : wrapA .i64 ((i : Int) * 37) = ((i * 37 : Nat) : Int) := by rw [wrapA_id (by omega) (by omega)]; omega
    have hw2 : wrapA .i64 (((i * 37 : Nat) : Int) + 11) = ((i * 37 + 11 : Nat) : Int) := by rw [wrapA_id (by omega) (by omega)]; omega
    have hm : ((i * 37 + 11 : Nat) : Int).tmod n = ((i * 37 + 11) % n : Nat) := by rw [Int.tmod_eq_emod_of_nonneg (by omega)]; simp
    have hne : ¬ (n : Int) = 0 := by omega
    have hne2 : ¬ n = 0 := by omega
    have hlt := Nat.mod_lt (i * 37 + 11) (show 0 < n by omega)
    refine ⟨(i * 37 + 11) % n, by omega, FnV.mk fn56 rfl md56 ⟨⟨[], 0⟩, ?_⟩ (fun _ => rfl) rfl⟩
    rw [fi56]
    generalize hz : i * 37 = z at *
    generalize hz2 : z + 11 = z2 at *
    simp [xI_seq, xI_region, xI_ret, regA, regOps, runOps, opStep, wantedA, opA, evo, evos, calleeA, lk, nif_eq, putE, paramsE, valS, val2, keepE, restrict, finA, resA, binA, binInt, ofConst, ofConst1, loadA, TK.isAgg, asVar, unA, builtinA, lenOpA, lenA, ileb_cast, ileb_eq, ieqb_dec, indexAddrA, inB_dec, evPairs, storeA, AV.cellsOf, pairsOf, xI_nil, binBool, gcE, evOpt, xI_block, xI_loopH, xI_condM, xI_exitM, xI_skip, xI_blk, exitA, ty2, ty5, ty45, h0, hil, hil2, hw, hw2, hm, hne, hne2, ty5]

/-! ### Samples: plain law -/
def inc1 (l : List Int) (k : Nat) : List Int := l.set k (at0 l k + 1)
theorem inc1_length (l : List Int) (k : Nat) : (inc1 l k).length = l.length := by simp [inc1]
theorem inc1_bound {l : List Int} {k : Nat} {i : Int} (hk : k < l.length) (h : ∀ j, 0 ≤ at0 l j ∧ at0 l j ≤ i) : ∀ j, 0 ≤ at0 (inc1 l k) j ∧ at0 (inc1 l k) j ≤ i + 1 := fun j => by
  rw [inc1, at0_set _ _ _ _ hk]
  have h1 := h j; have h2 := h k
  split <;> omega
theorem at0_rep (n j : Nat) : at0 (List.replicate n 0) j = 0 := by
  unfold at0
  rw [List.getD_eq_getElem?_getD, List.getElem?_replicate]
  split <;> rfl
theorem inc_row {σ : St} {b k : Nat} {l : List Int} {i : Int} (h : Row σ b l) (hk : k < l.length) (hb : ∀ j, 0 ≤ at0 l j ∧ at0 l j ≤ i) (hi : i ≤ 100000) : cellsAt σ (.ptr b k) 1 = some [.int .i64 (at0 l k)] ∧ wrapA .i64 (at0 l k + 1) = at0 l k + 1 ∧
    ∃ σ', storeCellsA σ b k [.int .i64 (at0 l k + 1)] = some σ' ∧ Row σ' b (inc1 l k) ∧ σ'.n = σ.n ∧ ∀ c, c ≠ b → σ'.get c = σ.get c := by
  refine ⟨row_rd h hk, wrapA_id ?_ ?_, store_row h hk⟩
  · have := hb k; omega
  · have := hb k; omega
def digsM : Nat → Nat → Nat → List Int
  | _, 0, _ => []
  | j, m + 1, x => ((modN x (j + 1) : Nat) : Int) :: digsM (j + 1) m (divN x (j + 1))
def divsM : Nat → Nat → Nat → Nat
  | _, 0, x => x
  | j, m + 1, x => divsM (j + 1) m (divN x (j + 1))
theorem digsM_length : ∀ (m j x : Nat), (digsM j m x).length = m
  | 0, _, _ => rfl
  | m + 1, j, x => by simp [digsM, digsM_length m]
def prd : Nat → Nat → Nat → Nat
  | _, 0, acc => acc
  | j, m + 1, acc => prd (j + 1) m (mulN acc (j + 1))
def rkO (n : Nat) (l : List Int) : Bool := inR n 1 60 && (allR l 0 ((n : Int) - 1) && incr l)
def rkV (n : Nat) (l : List Int) : Int := rankS n l 0 0
theorem rankR_ok {n : Nat} {l : List Int} (h : rkO n l = true) : rankR n l = .tup [.int .i64 (rkV n l), .bool true] := by
  unfold rankR
  unfold rkO at h
  rw [h]
  simp only [Int.toNat_natCast, rkV]
def okR (n k many : Nat) (s : List Int) : Bool := Nat.beq s.length k && (rkO n s && inR (rkV n s) 0 ((many : Int) - 1))
def smpA (n k many : Nat) : Nat → Nat → List Int → Option (List Int)
  | 0, _, a => some a
  | m + 1, x, a => match sampR n (digsM (n - k) k x) with
    | none => none
    | some s => match okR n k many s with
      | true => smpA n k many m (x + 1) (inc1 a (rkV n s).toNat)
      | false => none
def setOf (sl : List Int) : Nat → Nat → List Int
  | 0, _ => []
  | m + 1, i => if (i : Int) ∈ sl then (i : Int) :: setOf sl m (i + 1) else setOf sl m (i + 1)
def smpB (n k many : Nat) : Nat → Nat → List Int → Option (List Int)
  | 0, _, b => some b
  | m + 1, x, b => match resvR k (digsM k (n - k) x) with
    | none => none
    | some sl => match Nat.beq sl.length k && okR n k many (setOf sl n 0) with
      | true => smpB n k many m (x + 1) (inc1 b (rkV n (setOf sl n 0)).toNat)
      | false => none
def smpC (n k many all turns : Nat) (a b : List Int) : Nat → Nat → Bool
  | 0, _ => true
  | m + 1, i => match setR n k i with
    | none => false
    | some s => (ieqb (at0 a i * many) all && (ieqb (at0 b i * many) turns && (rkO n s && ieqb (rkV n s) i))) && smpC n k many all turns a b m (i + 1)
def smp (n k : Nat) : Bool := Nat.ble (ch n k) 10 && (Nat.ble (prd (n - k) k 1) 1000 && (Nat.ble (prd k (n - k) 1) 1000 &&
  match smpA n k (ch n k) (prd (n - k) k 1) 0 (List.replicate (ch n k) 0), smpB n k (ch n k) (prd k (n - k) 1) 0 (List.replicate (ch n k) 0) with
  | some a, some b => smpC n k (ch n k) (prd (n - k) k 1) (prd k (n - k) 1) a b (ch n k) 0
  | _, _ => false))
theorem smp_1_1 : smp 1 1 = true := by decide +kernel
theorem smp_2_1 : smp 2 1 = true := by decide +kernel
theorem smp_2_2 : smp 2 2 = true := by decide +kernel
theorem smp_3_1 : smp 3 1 = true := by decide +kernel
theorem smp_3_2 : smp 3 2 = true := by decide +kernel
theorem smp_3_3 : smp 3 3 = true := by decide +kernel
theorem smp_4_1 : smp 4 1 = true := by decide +kernel
theorem smp_4_2 : smp 4 2 = true := by decide +kernel
theorem smp_4_3 : smp 4 3 = true := by decide +kernel
theorem smp_5_1 : smp 5 1 = true := by decide +kernel
theorem smp_5_2 : smp 5 2 = true := by decide +kernel
theorem smp_5_3 : smp 5 3 = true := by decide +kernel
theorem smp_all {n k : Nat} (h1 : 1 ≤ n) (h5 : n ≤ 5) (k1 : 1 ≤ k) (k3 : k ≤ 3) (hk : k ≤ n) : smp n k = true := by
  have : (n = 1 ∧ k = 1) ∨ (n = 2 ∧ k = 1) ∨ (n = 2 ∧ k = 2) ∨ (n = 3 ∧ k = 1) ∨ (n = 3 ∧ k = 2) ∨ (n = 3 ∧ k = 3) ∨ (n = 4 ∧ k = 1) ∨ (n = 4 ∧ k = 2) ∨ (n = 4 ∧ k = 3) ∨ (n = 5 ∧ k = 1) ∨ (n = 5 ∧ k = 2) ∨ (n = 5 ∧ k = 3) := by omega
  rcases this with ⟨rfl, rfl⟩ | ⟨rfl, rfl⟩ | ⟨rfl, rfl⟩ | ⟨rfl, rfl⟩ | ⟨rfl, rfl⟩ | ⟨rfl, rfl⟩ | ⟨rfl, rfl⟩ | ⟨rfl, rfl⟩ | ⟨rfl, rfl⟩ | ⟨rfl, rfl⟩ | ⟨rfl, rfl⟩ | ⟨rfl, rfl⟩
  · exact smp_1_1
  · exact smp_2_1
  · exact smp_2_2
  · exact smp_3_1
  · exact smp_3_2
  · exact smp_3_3
  · exact smp_4_1
  · exact smp_4_2
  · exact smp_4_3
  · exact smp_5_1
  · exact smp_5_2
  · exact smp_5_3
noncomputable def b58 : Code := Try.f58.body.getD .skip
noncomputable def B58_0 : Code := (bodyC (bodyC (sndC (fstC (sndC b58)))))
noncomputable def K58_0 : List It := .lp B58_0 :: .blk 0 :: .code (sndC (sndC b58)) :: []
theorem xl58_0 {fi : FI} {env : Env} {σ : St} : exI TT fi K58_0 env σ = exI TT fi (.code B58_0 :: K58_0) env σ := by unfold K58_0; exact xI_lp
noncomputable def R58_0_0 : List It := .code (sndC (sndC b58)) :: []
theorem eK58_0_0 : exitA 0 K58_0 = some R58_0_0 := rfl
theorem l58 (l : List Int) (len : Nat) (hlen : len = l.length) (hs : len < 1000000) (x : Int) (σ : St) : ∀ (m i : Nat), i + m = len →
    exI TT (FI.of Try.f58 (TT.an 58)) K58_0 [(0, .lst len (ints l)), (1, .int .i64 x), (5, .int .i64 i)] σ = some (.bool (decide (x ∈ l.drop i)), σ) := by
  intro m
  induction m with
  | zero =>
    intro i hi
    have : i = len := by omega
    subst this
    rw [List.drop_eq_nil_of_le (by omega)]
    rw [fi58, xl58_0]
    simp only [B58_0, b58, Try.f58, Option.getD, fstC, sndC, bodyC, thnC, elsC]
    simp (maxSteps := 1000000) (disch := omega) [xI_seq, xI_region, xI_ret, regA, regOps, runOps, opStep, wantedA, opA, evo, evos, calleeA, lk, nif_eq, putE, paramsE, valS, val2, keepE, restrict, finA, resA, binA, binInt, ofConst, ofConst1, loadA, TK.isAgg, asVar, unA, builtinA, lenOpA, lenA, indexAddrA, evPairs, storeA, AV.cellsOf, pairsOf, xI_nil, binBool, gcE, evOpt, runTr, pairsOk, pairOk, sameVal, AV.eqv, lastOf, lstAt, eqvs, boundA, indexA, regF, twoOf, prsOf, memI, runTrF, selF, runTr2, freshOp, scals, AV.scal, xI_block, xI_loopH, xI_condM, xI_exitM, xI_skip, xI_blk, exitA, List.getElem?_cons_zero, List.getElem?_cons_succ, List.getElem?_toArray, List.getElem?_nil, ileb_t, ileb_f, ieqb_t, ieqb_f, inB_t, wrapA_id, lp_read, ieqb_self, Nat.blt_eq, cond_true, cond_false, ty2, ty3, ty22, eK58_0_0]
    simp only [R58_0_0, b58, Try.f58, Option.getD, fstC, sndC, bodyC, thnC, elsC]
    simp (maxSteps := 1000000) (disch := omega) [xI_seq, xI_region, xI_ret, regA, regOps, runOps, opStep, wantedA, opA, evo, evos, calleeA, lk, nif_eq, putE, paramsE, valS, val2, keepE, restrict, finA, resA, binA, binInt, ofConst, ofConst1, loadA, TK.isAgg, asVar, unA, builtinA, lenOpA, lenA, indexAddrA, evPairs, storeA, AV.cellsOf, pairsOf, xI_nil, binBool, gcE, evOpt, runTr, pairsOk, pairOk, sameVal, AV.eqv, lastOf, lstAt, eqvs, boundA, indexA, regF, twoOf, prsOf, memI, runTrF, selF, runTr2, freshOp, scals, AV.scal, xI_block, xI_loopH, xI_condM, xI_exitM, xI_skip, xI_blk, exitA, List.getElem?_cons_zero, List.getElem?_cons_succ, List.getElem?_toArray, List.getElem?_nil, ileb_t, ileb_f, ieqb_t, ieqb_f, inB_t, wrapA_id, lp_read, ieqb_self, Nat.blt_eq, cond_true, cond_false, ty2, ty3, ty22, eK58_0_0]
  | succ m ih =>
    intro i hi
    have ih := ih (i + 1) (by omega)
    have da : l.drop i = at0 l i :: l.drop (i + 1) := by rw [List.drop_eq_getElem_cons (show i < l.length by omega)]; simp [at0, List.getD_eq_getElem?_getD, show i < l.length by omega]
    have hw := wrapS (n := i) (by omega)
    rw [da]
    by_cases hx : at0 l i = x
    · rw [show decide (x ∈ at0 l i :: l.drop (i + 1)) = true by simp [hx]]
      rw [fi58, xl58_0]
      simp only [B58_0, b58, Try.f58, Option.getD, fstC, sndC, bodyC, thnC, elsC]
      simp (maxSteps := 1000000) (disch := omega) [xI_seq, xI_region, xI_ret, regA, regOps, runOps, opStep, wantedA, opA, evo, evos, calleeA, lk, nif_eq, putE, paramsE, valS, val2, keepE, restrict, finA, resA, binA, binInt, ofConst, ofConst1, loadA, TK.isAgg, asVar, unA, builtinA, lenOpA, lenA, indexAddrA, evPairs, storeA, AV.cellsOf, pairsOf, xI_nil, binBool, gcE, evOpt, runTr, pairsOk, pairOk, sameVal, AV.eqv, lastOf, lstAt, eqvs, boundA, indexA, regF, twoOf, prsOf, memI, runTrF, selF, runTr2, freshOp, scals, AV.scal, xI_block, xI_loopH, xI_condM, xI_exitM, xI_skip, xI_blk, exitA, List.getElem?_cons_zero, List.getElem?_cons_succ, List.getElem?_toArray, List.getElem?_nil, ileb_t, ileb_f, ieqb_t, ieqb_f, inB_t, wrapA_id, lp_read, ieqb_self, Nat.blt_eq, cond_true, cond_false, ty2, ty3, ty22, eK58_0_0, hx]
    · have hx2 : ¬ x = at0 l i := fun e => hx e.symm
      rw [show decide (x ∈ at0 l i :: l.drop (i + 1)) = decide (x ∈ l.drop (i + 1)) by simp [hx2]]
      rw [← ih]
      rw [fi58, xl58_0]
      simp only [B58_0, b58, Try.f58, Option.getD, fstC, sndC, bodyC, thnC, elsC]
      simp (maxSteps := 1000000) (disch := omega) [xI_seq, xI_region, xI_ret, regA, regOps, runOps, opStep, wantedA, opA, evo, evos, calleeA, lk, nif_eq, putE, paramsE, valS, val2, keepE, restrict, finA, resA, binA, binInt, ofConst, ofConst1, loadA, TK.isAgg, asVar, unA, builtinA, lenOpA, lenA, indexAddrA, evPairs, storeA, AV.cellsOf, pairsOf, xI_nil, binBool, gcE, evOpt, runTr, pairsOk, pairOk, sameVal, AV.eqv, lastOf, lstAt, eqvs, boundA, indexA, regF, twoOf, prsOf, memI, runTrF, selF, runTr2, freshOp, scals, AV.scal, xI_block, xI_loopH, xI_condM, xI_exitM, xI_skip, xI_blk, exitA, List.getElem?_cons_zero, List.getElem?_cons_succ, List.getElem?_toArray, List.getElem?_nil, ileb_t, ileb_f, ieqb_t, ieqb_f, inB_t, wrapA_id, lp_read, ieqb_self, Nat.blt_eq, cond_true, cond_false, ty2, ty3, ty22, eK58_0_0, hx, hw]
theorem v58 (l : List Int) (len : Nat) (hlen : len = l.length) (hs : len < 1000000) (x : Int) : FnV TT 58 [.lst len (ints l), .int .i64 x] (.bool (decide (x ∈ l))) := by
  have h := l58 l len hlen hs x ⟨[], 0⟩ len 0 (by omega)
  rw [List.drop_zero] at h
  simp only [show ((0 : Nat) : Int) = 0 from rfl] at h
  refine FnV.mk fn58 rfl md58 ⟨⟨[], 0⟩, ?_⟩ (fun _ => rfl) rfl
  rw [← h, fi58]
  simp (maxSteps := 1000000) (disch := omega) [xI_seq, xI_region, xI_ret, regA, regOps, runOps, opStep, wantedA, opA, evo, evos, calleeA, lk, nif_eq, putE, paramsE, valS, val2, keepE, restrict, finA, resA, binA, binInt, ofConst, ofConst1, loadA, TK.isAgg, asVar, unA, builtinA, lenOpA, lenA, indexAddrA, evPairs, storeA, AV.cellsOf, pairsOf, xI_nil, binBool, gcE, evOpt, runTr, pairsOk, pairOk, sameVal, AV.eqv, lastOf, lstAt, eqvs, boundA, indexA, regF, twoOf, prsOf, memI, runTrF, selF, runTr2, freshOp, scals, AV.scal, xI_block, xI_loopH, xI_condM, xI_exitM, xI_skip, xI_blk, exitA, List.getElem?_cons_zero, List.getElem?_cons_succ, List.getElem?_toArray, List.getElem?_nil, ileb_t, ileb_f, ieqb_t, ieqb_f, inB_t, wrapA_id, lp_read, ieqb_self, Nat.blt_eq, cond_true, cond_false, ty2, ty3, ty22, eK58_0_0]
  rfl

theorem c57 (n k : Nat) (hn : n ≤ 60) (hk : k ≤ n) (σ : St) : callI TT 57 [.int .i64 n, .int .i64 k] σ = some (.tup [.int .i64 (ch n k), .bool true], σ) := by
  have e1 := fun σ => c66 n 0 60 σ
  have e2 := fun σ => c66 k 0 n σ
  have e3 := fun σ => c83 n k hn hk σ
  rw [show inR (n : Int) 0 60 = true from inR_iff.2 ⟨by omega, by omega⟩] at e1
  rw [show inR (k : Int) 0 n = true from inR_iff.2 ⟨by omega, by omega⟩] at e2
  refine (FnV.mk (args' := [.int .i64 n, .int .i64 k]) (v := .tup [.int .i64 (ch n k), .bool true]) fn57 rfl md57 ⟨⟨[], 0⟩, ?_⟩ (fun _ => rfl) rfl) σ _ rfl
  rw [fi57]
  simp (maxSteps := 1000000) (disch := omega) [xI_seq, xI_region, xI_ret, regA, regOps, runOps, opStep, wantedA, opA, evo, evos, calleeA, lk, nif_eq, putE, paramsE, valS, val2, keepE, restrict, finA, resA, binA, binInt, ofConst, ofConst1, loadA, TK.isAgg, asVar, unA, builtinA, lenOpA, lenA, indexAddrA, evPairs, storeA, AV.cellsOf, pairsOf, xI_nil, binBool, gcE, evOpt, runTr, pairsOk, pairOk, sameVal, AV.eqv, lastOf, lstAt, eqvs, boundA, indexA, regF, twoOf, prsOf, memI, runTrF, selF, runTr2, freshOp, scals, AV.scal, xI_block, xI_loopH, xI_condM, xI_exitM, xI_skip, xI_blk, exitA, List.getElem?_cons_zero, List.getElem?_cons_succ, List.getElem?_toArray, List.getElem?_nil, ileb_t, ileb_f, ieqb_t, ieqb_f, inB_t, wrapA_id, lp_read, ieqb_self, Nat.blt_eq, cond_true, cond_false, ty4, e1, e2, e3]

noncomputable def b17 : Code := Try.f17.body.getD .skip
noncomputable def B17_0 : Code := (bodyC (bodyC (sndC (fstC (sndC (sndC (sndC (sndC (sndC (sndC (sndC (sndC (sndC b17)))))))))))))
noncomputable def K17_0 : List It := .lp B17_0 :: .blk 0 :: .code (sndC (sndC (sndC (sndC (sndC (sndC (sndC (sndC (sndC (sndC b17)))))))))) :: []
theorem xl17_0 {fi : FI} {env : Env} {σ : St} : exI TT fi K17_0 env σ = exI TT fi (.code B17_0 :: K17_0) env σ := by unfold K17_0; exact xI_lp
noncomputable def R17_0_0 : List It := .code (sndC (sndC (sndC (sndC (sndC (sndC (sndC (sndC (sndC (sndC b17)))))))))) :: []
theorem eK17_0_0 : exitA 0 K17_0 = some R17_0_0 := rfl
noncomputable def B17_1 : Code := (bodyC (bodyC (sndC (fstC (sndC (sndC (sndC (sndC (sndC (sndC (sndC (sndC (sndC (sndC b17))))))))))))))
noncomputable def K17_1 : List It := .lp B17_1 :: .blk 2 :: .code (sndC (sndC (sndC (sndC (sndC (sndC (sndC (sndC (sndC (sndC (sndC b17))))))))))) :: []
theorem xl17_1 {fi : FI} {env : Env} {σ : St} : exI TT fi K17_1 env σ = exI TT fi (.code B17_1 :: K17_1) env σ := by unfold K17_1; exact xI_lp
noncomputable def R17_1_2 : List It := .code (sndC (sndC (sndC (sndC (sndC (sndC (sndC (sndC (sndC (sndC (sndC b17))))))))))) :: []
theorem eK17_1_2 : exitA 2 K17_1 = some R17_1_2 := rfl
noncomputable def B17_2 : Code := (bodyC (bodyC (sndC (fstC (sndC (sndC (bodyC (fstC (sndC (bodyC (bodyC (sndC (fstC (sndC (sndC (sndC (sndC (sndC (sndC (sndC (sndC (sndC (sndC b17)))))))))))))))))))))))
noncomputable def K17_2 : List It := .lp B17_2 :: .blk 4 :: .code (sndC (sndC (sndC (bodyC (fstC (sndC (bodyC (bodyC (sndC (fstC (sndC (sndC (sndC (sndC (sndC (sndC (sndC (sndC (sndC (sndC b17)))))))))))))))))))) :: .blk 3 :: .code (sndC (sndC (bodyC (bodyC (sndC (fstC (sndC (sndC (sndC (sndC (sndC (sndC (sndC (sndC (sndC (sndC b17)))))))))))))))) :: K17_1
theorem xl17_2 {fi : FI} {env : Env} {σ : St} : exI TT fi K17_2 env σ = exI TT fi (.code B17_2 :: K17_2) env σ := by unfold K17_2; exact xI_lp
noncomputable def R17_2_4 : List It := .code (sndC (sndC (sndC (bodyC (fstC (sndC (bodyC (bodyC (sndC (fstC (sndC (sndC (sndC (sndC (sndC (sndC (sndC (sndC (sndC (sndC b17)))))))))))))))))))) :: .blk 3 :: .code (sndC (sndC (bodyC (bodyC (sndC (fstC (sndC (sndC (sndC (sndC (sndC (sndC (sndC (sndC (sndC (sndC b17)))))))))))))))) :: K17_1
theorem eK17_2_4 : exitA 4 K17_2 = some R17_2_4 := rfl
noncomputable def R17_2_3 : List It := .code (sndC (sndC (bodyC (bodyC (sndC (fstC (sndC (sndC (sndC (sndC (sndC (sndC (sndC (sndC (sndC (sndC b17)))))))))))))))) :: K17_1
theorem eK17_2_3 : exitA 3 K17_2 = some R17_2_3 := rfl
theorem eK17_2_2 : exitA 2 K17_2 = some R17_1_2 := rfl
noncomputable def B17_3 : Code := (bodyC (bodyC (sndC (fstC (sndC (sndC (sndC (sndC (sndC (sndC (sndC (sndC (sndC (sndC (sndC (sndC b17))))))))))))))))
noncomputable def K17_3 : List It := .lp B17_3 :: .blk 6 :: .code (sndC (sndC (sndC (sndC (sndC (sndC (sndC (sndC (sndC (sndC (sndC (sndC (sndC b17))))))))))))) :: []
theorem xl17_3 {fi : FI} {env : Env} {σ : St} : exI TT fi K17_3 env σ = exI TT fi (.code B17_3 :: K17_3) env σ := by unfold K17_3; exact xI_lp
noncomputable def R17_3_6 : List It := .code (sndC (sndC (sndC (sndC (sndC (sndC (sndC (sndC (sndC (sndC (sndC (sndC (sndC b17))))))))))))) :: []
theorem eK17_3_6 : exitA 6 K17_3 = some R17_3_6 := rfl
noncomputable def B17_4 : Code := (bodyC (bodyC (sndC (fstC (sndC (sndC (sndC (sndC (sndC (sndC (sndC (sndC (sndC (sndC (sndC (sndC (sndC b17)))))))))))))))))
noncomputable def K17_4 : List It := .lp B17_4 :: .blk 8 :: .code (sndC (sndC (sndC (sndC (sndC (sndC (sndC (sndC (sndC (sndC (sndC (sndC (sndC (sndC b17)))))))))))))) :: []
theorem xl17_4 {fi : FI} {env : Env} {σ : St} : exI TT fi K17_4 env σ = exI TT fi (.code B17_4 :: K17_4) env σ := by unfold K17_4; exact xI_lp
noncomputable def R17_4_8 : List It := .code (sndC (sndC (sndC (sndC (sndC (sndC (sndC (sndC (sndC (sndC (sndC (sndC (sndC (sndC b17)))))))))))))) :: []
theorem eK17_4_8 : exitA 8 K17_4 = some R17_4_8 := rfl
noncomputable def B17_5 : Code := (bodyC (bodyC (sndC (fstC (sndC (sndC (bodyC (fstC (sndC (bodyC (bodyC (sndC (fstC (sndC (sndC (sndC (sndC (sndC (sndC (sndC (sndC (sndC (sndC (sndC (sndC (sndC b17))))))))))))))))))))))))))
noncomputable def K17_5 : List It := .lp B17_5 :: .blk 10 :: .code (sndC (sndC (sndC (bodyC (fstC (sndC (bodyC (bodyC (sndC (fstC (sndC (sndC (sndC (sndC (sndC (sndC (sndC (sndC (sndC (sndC (sndC (sndC (sndC b17))))))))))))))))))))))) :: .blk 9 :: .code (sndC (sndC (bodyC (bodyC (sndC (fstC (sndC (sndC (sndC (sndC (sndC (sndC (sndC (sndC (sndC (sndC (sndC (sndC (sndC b17))))))))))))))))))) :: K17_4
theorem xl17_5 {fi : FI} {env : Env} {σ : St} : exI TT fi K17_5 env σ = exI TT fi (.code B17_5 :: K17_5) env σ := by unfold K17_5; exact xI_lp
noncomputable def R17_5_10 : List It := .code (sndC (sndC (sndC (bodyC (fstC (sndC (bodyC (bodyC (sndC (fstC (sndC (sndC (sndC (sndC (sndC (sndC (sndC (sndC (sndC (sndC (sndC (sndC (sndC b17))))))))))))))))))))))) :: .blk 9 :: .code (sndC (sndC (bodyC (bodyC (sndC (fstC (sndC (sndC (sndC (sndC (sndC (sndC (sndC (sndC (sndC (sndC (sndC (sndC (sndC b17))))))))))))))))))) :: K17_4
theorem eK17_5_10 : exitA 10 K17_5 = some R17_5_10 := rfl
noncomputable def R17_5_9 : List It := .code (sndC (sndC (bodyC (bodyC (sndC (fstC (sndC (sndC (sndC (sndC (sndC (sndC (sndC (sndC (sndC (sndC (sndC (sndC (sndC b17))))))))))))))))))) :: K17_4
theorem eK17_5_9 : exitA 9 K17_5 = some R17_5_9 := rfl
theorem eK17_5_8 : exitA 8 K17_5 = some R17_4_8 := rfl
noncomputable def B17_6 : Code := (bodyC (bodyC (sndC (fstC (sndC (sndC (sndC (sndC (sndC (sndC (bodyC (fstC (sndC (bodyC (bodyC (sndC (fstC (sndC (sndC (sndC (sndC (sndC (sndC (sndC (sndC (sndC (sndC (sndC (sndC (sndC b17))))))))))))))))))))))))))))))
noncomputable def K17_6 : List It := .lp B17_6 :: .blk 12 :: .code (sndC (sndC (sndC (sndC (sndC (sndC (sndC (bodyC (fstC (sndC (bodyC (bodyC (sndC (fstC (sndC (sndC (sndC (sndC (sndC (sndC (sndC (sndC (sndC (sndC (sndC (sndC (sndC b17))))))))))))))))))))))))))) :: .blk 9 :: .code (sndC (sndC (bodyC (bodyC (sndC (fstC (sndC (sndC (sndC (sndC (sndC (sndC (sndC (sndC (sndC (sndC (sndC (sndC (sndC b17))))))))))))))))))) :: K17_4
theorem xl17_6 {fi : FI} {env : Env} {σ : St} : exI TT fi K17_6 env σ = exI TT fi (.code B17_6 :: K17_6) env σ := by unfold K17_6; exact xI_lp
noncomputable def R17_6_12 : List It := .code (sndC (sndC (sndC (sndC (sndC (sndC (sndC (bodyC (fstC (sndC (bodyC (bodyC (sndC (fstC (sndC (sndC (sndC (sndC (sndC (sndC (sndC (sndC (sndC (sndC (sndC (sndC (sndC b17))))))))))))))))))))))))))) :: .blk 9 :: .code (sndC (sndC (bodyC (bodyC (sndC (fstC (sndC (sndC (sndC (sndC (sndC (sndC (sndC (sndC (sndC (sndC (sndC (sndC (sndC b17))))))))))))))))))) :: K17_4
theorem eK17_6_12 : exitA 12 K17_6 = some R17_6_12 := rfl
noncomputable def R17_6_9 : List It := .code (sndC (sndC (bodyC (bodyC (sndC (fstC (sndC (sndC (sndC (sndC (sndC (sndC (sndC (sndC (sndC (sndC (sndC (sndC (sndC b17))))))))))))))))))) :: K17_4
theorem eK17_6_9 : exitA 9 K17_6 = some R17_6_9 := rfl
theorem eK17_6_8 : exitA 8 K17_6 = some R17_4_8 := rfl
noncomputable def B17_7 : Code := (bodyC (bodyC (sndC (fstC (sndC (sndC (sndC (sndC (sndC (sndC (sndC (sndC (sndC (sndC (sndC (sndC (sndC (sndC b17))))))))))))))))))
noncomputable def K17_7 : List It := .lp B17_7 :: .blk 14 :: .code (sndC (sndC (sndC (sndC (sndC (sndC (sndC (sndC (sndC (sndC (sndC (sndC (sndC (sndC (sndC b17))))))))))))))) :: []
theorem xl17_7 {fi : FI} {env : Env} {σ : St} : exI TT fi K17_7 env σ = exI TT fi (.code B17_7 :: K17_7) env σ := by unfold K17_7; exact xI_lp
noncomputable def R17_7_14 : List It := .code (sndC (sndC (sndC (sndC (sndC (sndC (sndC (sndC (sndC (sndC (sndC (sndC (sndC (sndC (sndC b17))))))))))))))) :: []
theorem eK17_7_14 : exitA 14 K17_7 = some R17_7_14 := rfl
set_option maxHeartbeats 1000000 in
theorem a17 (n k many b9 b10 : Nat) (hn : n ≤ 5) (σ : St) : ∀ (m j acc : Nat), j + m = n → acc * 6 ^ m ≤ 100000 →
    exI TT (FI.of Try.f17 (TT.an 17)) K17_0 [(5, .int .i64 n), (6, .int .i64 k), (7, .int .i64 many), (8, .bool true), (9, .sl b9 0 many many), (10, .sl b10 0 many many), (11, .int .i64 acc), (12, .int .i64 j)] σ = exI TT (FI.of Try.f17 (TT.an 17)) R17_0_0 [(5, .int .i64 n), (6, .int .i64 k), (7, .int .i64 many), (8, .bool true), (9, .sl b9 0 many many), (10, .sl b10 0 many many), (11, .int .i64 (prd j m acc : Nat)), (12, .int .i64 n), (66, .bool false)] σ := by
  intro m
  induction m with
  | zero =>
    intro j acc hj ha
    have : j = n := by omega
    subst this
    rw [fi17, xl17_0]
    simp only [B17_0, b17, Try.f17, Option.getD, fstC, sndC, bodyC, thnC, elsC]
    simp (maxSteps := 1000000) (disch := omega) [xI_seq, xI_region, xI_ret, regA, regOps, runOps, opStep, wantedA, opA, evo, evos, calleeA, lk, nif_eq, putE, paramsE, valS, val2, keepE, restrict, finA, resA, binA, binInt, ofConst, ofConst1, loadA, TK.isAgg, asVar, unA, builtinA, lenOpA, lenA, indexAddrA, evPairs, storeA, AV.cellsOf, pairsOf, xI_nil, binBool, gcE, evOpt, runTr, pairsOk, pairOk, sameVal, AV.eqv, lastOf, lstAt, eqvs, boundA, indexA, regF, twoOf, prsOf, memI, runTrF, selF, runTr2, freshOp, scals, AV.scal, xI_block, xI_loopH, xI_condM, xI_exitM, xI_skip, xI_blk, exitA, List.getElem?_cons_zero, List.getElem?_cons_succ, List.getElem?_toArray, List.getElem?_nil, ileb_t, ileb_f, ieqb_t, ieqb_f, inB_t, wrapA_id, lp_read, ieqb_self, Nat.blt_eq, cond_true, cond_false, ty2, ty4, ty22, eK17_0_0, eK17_1_2, eK17_2_4, eK17_2_3, eK17_2_2, eK17_3_6, eK17_4_8, eK17_5_10, eK17_5_9, eK17_5_8, eK17_6_12, eK17_6_9, eK17_6_8, eK17_7_14]
    rfl
  | succ m ih =>
    intro j acc hj ha
    have h6 : mulN acc (j + 1) * 6 ^ m ≤ 100000 := by
      have h1 : acc * (j + 1) ≤ acc * 6 := Nat.mul_le_mul_left _ (by omega)
      have h2 : acc * (j + 1) * 6 ^ m ≤ acc * 6 * 6 ^ m := Nat.mul_le_mul_right _ h1
      rw [Nat.pow_succ, Nat.mul_comm (6 ^ m), ← Nat.mul_assoc] at ha
      exact Nat.le_trans h2 ha
    have h7 : mulN acc (j + 1) ≤ 100000 := Nat.le_trans (Nat.le_mul_of_pos_right _ (Nat.pow_pos (by decide))) h6
    rw [prd, ← ih (j + 1) _ (by omega) h6]
    have hw : wrapA .i64 ((j : Int) + 1) = ((j + 1 : Nat) : Int) := by rw [wrapA_id (by omega) (by omega)]; omega
    have hw2 : wrapA .i64 ((acc : Int) * ((j + 1 : Nat) : Int)) = ((mulN acc (j + 1) : Nat) : Int) := by
      have e : (acc : Int) * ((j + 1 : Nat) : Int) = ((mulN acc (j + 1) : Nat) : Int) := by rw [← Int.natCast_mul]; rfl
      rw [e]; exact wrapA_id (by omega) (by omega)
    generalize mulN acc (j + 1) = q at *
    generalize j + 1 = j1 at *
    clear ih
    rw [fi17, xl17_0]
    simp only [B17_0, b17, Try.f17, Option.getD, fstC, sndC, bodyC, thnC, elsC]
    simp (maxSteps := 1000000) (disch := omega) [xI_seq, xI_region, xI_ret, regA, regOps, runOps, opStep, wantedA, opA, evo, evos, calleeA, lk, nif_eq, putE, paramsE, valS, val2, keepE, restrict, finA, resA, binA, binInt, ofConst, ofConst1, loadA, TK.isAgg, asVar, unA, builtinA, lenOpA, lenA, indexAddrA, evPairs, storeA, AV.cellsOf, pairsOf, xI_nil, binBool, gcE, evOpt, runTr, pairsOk, pairOk, sameVal, AV.eqv, lastOf, lstAt, eqvs, boundA, indexA, regF, twoOf, prsOf, memI, runTrF, selF, runTr2, freshOp, scals, AV.scal, xI_block, xI_loopH, xI_condM, xI_exitM, xI_skip, xI_blk, exitA, List.getElem?_cons_zero, List.getElem?_cons_succ, List.getElem?_toArray, List.getElem?_nil, ileb_t, ileb_f, ieqb_t, ieqb_f, inB_t, wrapA_id, lp_read, ieqb_self, Nat.blt_eq, cond_true, cond_false, ty2, ty4, ty22, eK17_0_0, eK17_1_2, eK17_2_4, eK17_2_3, eK17_2_2, eK17_3_6, eK17_4_8, eK17_5_10, eK17_5_9, eK17_5_8, eK17_6_12, eK17_6_9, eK17_6_8, eK17_7_14, hw, hw2]

set_option maxHeartbeats 1000000 in
theorem b17_ (n k many b9 b10 all : Nat) (hn : n ≤ 5) (σ : St) : ∀ (m j acc : Nat), j + m = n → acc * 6 ^ m ≤ 100000 →
    exI TT (FI.of Try.f17 (TT.an 17)) K17_3 [(5, .int .i64 n), (6, .int .i64 k), (7, .int .i64 many), (8, .bool true), (9, .sl b9 0 many many), (10, .sl b10 0 many many), (11, .int .i64 all), (21, .int .i64 acc), (22, .int .i64 j)] σ = exI TT (FI.of Try.f17 (TT.an 17)) R17_3_6 [(5, .int .i64 n), (6, .int .i64 k), (7, .int .i64 many), (8, .bool true), (9, .sl b9 0 many many), (10, .sl b10 0 many many), (11, .int .i64 all), (21, .int .i64 (prd j m acc : Nat)), (22, .int .i64 n), (141, .bool false)] σ := by
  intro m
  induction m with
  | zero =>
    intro j acc hj ha
    have : j = n := by omega
    subst this
    rw [fi17, xl17_3]
    simp only [B17_3, b17, Try.f17, Option.getD, fstC, sndC, bodyC, thnC, elsC]
    simp (maxSteps := 1000000) (disch := omega) [xI_seq, xI_region, xI_ret, regA, regOps, runOps, opStep, wantedA, opA, evo, evos, calleeA, lk, nif_eq, putE, paramsE, valS, val2, keepE, restrict, finA, resA, binA, binInt, ofConst, ofConst1, loadA, TK.isAgg, asVar, unA, builtinA, lenOpA, lenA, indexAddrA, evPairs, storeA, AV.cellsOf, pairsOf, xI_nil, binBool, gcE, evOpt, runTr, pairsOk, pairOk, sameVal, AV.eqv, lastOf, lstAt, eqvs, boundA, indexA, regF, twoOf, prsOf, memI, runTrF, selF, runTr2, freshOp, scals, AV.scal, xI_block, xI_loopH, xI_condM, xI_exitM, xI_skip, xI_blk, exitA, List.getElem?_cons_zero, List.getElem?_cons_succ, List.getElem?_toArray, List.getElem?_nil, ileb_t, ileb_f, ieqb_t, ieqb_f, inB_t, wrapA_id, lp_read, ieqb_self, Nat.blt_eq, cond_true, cond_false, ty2, ty4, ty22, eK17_0_0, eK17_1_2, eK17_2_4, eK17_2_3, eK17_2_2, eK17_3_6, eK17_4_8, eK17_5_10, eK17_5_9, eK17_5_8, eK17_6_12, eK17_6_9, eK17_6_8, eK17_7_14]
    rfl
  | succ m ih =>
    intro j acc hj ha
    have h6 : mulN acc (j + 1) * 6 ^ m ≤ 100000 := by
      have h1 : acc * (j + 1) ≤ acc * 6 := Nat.mul_le_mul_left _ (by omega)
      have h2 : acc * (j + 1) * 6 ^ m ≤ acc * 6 * 6 ^ m := Nat.mul_le_mul_right _ h1
      rw [Nat.pow_succ, Nat.mul_comm (6 ^ m), ← Nat.mul_assoc] at ha
      exact Nat.le_trans h2 ha
    have h7 : mulN acc (j + 1) ≤ 100000 := Nat.le_trans (Nat.le_mul_of_pos_right _ (Nat.pow_pos (by decide))) h6
    rw [prd, ← ih (j + 1) _ (by omega) h6]
    have hw : wrapA .i64 ((j : Int) + 1) = ((j + 1 : Nat) : Int) := by rw [wrapA_id (by omega) (by omega)]; omega
    have hw2 : wrapA .i64 ((acc : Int) * ((j + 1 : Nat) : Int)) = ((mulN acc (j + 1) : Nat) : Int) := by
      have e : (acc : Int) * ((j + 1 : Nat) : Int) = ((mulN acc (j + 1) : Nat) : Int) := by rw [← Int.natCast_mul]; rfl
      rw [e]; exact wrapA_id (by omega) (by omega)
    generalize mulN acc (j + 1) = q at *
    generalize j + 1 = j1 at *
    clear ih
    rw [fi17, xl17_3]
    simp only [B17_3, b17, Try.f17, Option.getD, fstC, sndC, bodyC, thnC, elsC]
    simp (maxSteps := 1000000) (disch := omega) [xI_seq, xI_region, xI_ret, regA, regOps, runOps, opStep, wantedA, opA, evo, evos, calleeA, lk, nif_eq, putE, paramsE, valS, val2, keepE, restrict, finA, resA, binA, binInt, ofConst, ofConst1, loadA, TK.isAgg, asVar, unA, builtinA, lenOpA, lenA, indexAddrA, evPairs, storeA, AV.cellsOf, pairsOf, xI_nil, binBool, gcE, evOpt, runTr, pairsOk, pairOk, sameVal, AV.eqv, lastOf, lstAt, eqvs, boundA, indexA, regF, twoOf, prsOf, memI, runTrF, selF, runTr2, freshOp, scals, AV.scal, xI_block, xI_loopH, xI_condM, xI_exitM, xI_skip, xI_blk, exitA, List.getElem?_cons_zero, List.getElem?_cons_succ, List.getElem?_toArray, List.getElem?_nil, ileb_t, ileb_f, ieqb_t, ieqb_f, inB_t, wrapA_id, lp_read, ieqb_self, Nat.blt_eq, cond_true, cond_false, ty2, ty4, ty22, eK17_0_0, eK17_1_2, eK17_2_4, eK17_2_3, eK17_2_2, eK17_3_6, eK17_4_8, eK17_5_10, eK17_5_9, eK17_5_8, eK17_6_12, eK17_6_9, eK17_6_8, eK17_7_14, hw, hw2]

set_option maxHeartbeats 2000000 in
theorem d17 (n k many b9 b10 all : Nat) (V13 V21 V23 : AV) (hn : n ≤ 5) : ∀ (m j x q : Nat) (cs : List Int) (b : Nat) (σ : St), j + m = n → x ≤ 100000 → q = cs.length → q + m ≤ 100 → Row σ b cs →
    ∃ σ' b', exI TT (FI.of Try.f17 (TT.an 17)) K17_2 [(5, .int .i64 n), (6, .int .i64 k), (7, .int .i64 many), (8, .bool true), (9, .sl b9 0 many many), (10, .sl b10 0 many many), (11, .int .i64 all), (13, V13), (14, .sl b 0 q q), (15, .int .i64 x), (16, .int .i64 j)] σ = exI TT (FI.of Try.f17 (TT.an 17)) R17_2_4 [(5, .int .i64 n), (6, .int .i64 k), (7, .int .i64 many), (8, .bool true), (9, .sl b9 0 many many), (10, .sl b10 0 many many), (11, .int .i64 all), (13, V13), (14, .sl b' 0 (q + m) (q + m)), (15, .int .i64 (divsM j m x : Nat)), (16, .int .i64 n), (85, .bool false)] σ' ∧ Row σ' b' (cs ++ digsM j m x) ∧ σ.n ≤ σ'.n ∧ ∀ c, c ≠ b → c < σ.n → σ'.get c = σ.get c := by
  intro m
  induction m with
  | zero =>
    intro j x q cs b σ hj hx hq hqk hr
    have : j = n := by omega
    subst this
    refine ⟨σ, b, ?_, by simpa [digsM] using hr, Nat.le_refl _, fun _ _ _ => rfl⟩
    rw [fi17, xl17_2]
    simp only [B17_2, b17, Try.f17, Option.getD, fstC, sndC, bodyC, thnC, elsC]
    simp (maxSteps := 1000000) (disch := omega) [xI_seq, xI_region, xI_ret, regA, regOps, runOps, opStep, wantedA, opA, evo, evos, calleeA, lk, nif_eq, putE, paramsE, valS, val2, keepE, restrict, finA, resA, binA, binInt, ofConst, ofConst1, loadA, TK.isAgg, asVar, unA, builtinA, lenOpA, lenA, indexAddrA, evPairs, storeA, AV.cellsOf, pairsOf, xI_nil, binBool, gcE, evOpt, runTr, pairsOk, pairOk, sameVal, AV.eqv, lastOf, lstAt, eqvs, boundA, indexA, regF, twoOf, prsOf, memI, runTrF, selF, runTr2, freshOp, scals, AV.scal, xI_block, xI_loopH, xI_condM, xI_exitM, xI_skip, xI_blk, exitA, List.getElem?_cons_zero, List.getElem?_cons_succ, List.getElem?_toArray, List.getElem?_nil, ileb_t, ileb_f, ieqb_t, ieqb_f, inB_t, wrapA_id, lp_read, ieqb_self, Nat.blt_eq, cond_true, cond_false, ty2, ty4, ty22, eK17_0_0, eK17_1_2, eK17_2_4, eK17_2_3, eK17_2_2, eK17_3_6, eK17_4_8, eK17_5_10, eK17_5_9, eK17_5_8, eK17_6_12, eK17_6_9, eK17_6_8, eK17_7_14]
    rfl
  | succ m ih =>
    intro j x q cs b σ hj hx hq hqk hr
    have hbl := hr.lt
    have e2 := fun σ => bs22 σ ((modN x (j + 1) : Nat) : Int)
    obtain ⟨σ2, c2, r2, n2, o2⟩ := append_row (T := TT) (x := ((modN x (j + 1) : Nat) : Int)) ty22 ty2 hr hq (by omega)
    have hdx : divN x (j + 1) ≤ 100000 := Nat.le_trans (Nat.div_le_self _ _) hx
    obtain ⟨σ', b', k1, k2, k3, k4⟩ := ih (j + 1) (divN x (j + 1)) (q + 1) (cs ++ [((modN x (j + 1) : Nat) : Int)]) _ σ2 (by omega) hdx (by simp [hq]) (by omega) r2
    refine ⟨σ', b', ?_, by simpa [digsM] using k2, by omega, fun c hc hcn => ?_⟩
    · rw [show q + (m + 1) = q + 1 + m by omega]
      show _ = exI TT (FI.of Try.f17 (TT.an 17)) R17_2_4 [(5, .int .i64 n), (6, .int .i64 k), (7, .int .i64 many), (8, .bool true), (9, .sl b9 0 many many), (10, .sl b10 0 many many), (11, .int .i64 all), (13, V13), (14, .sl b' 0 (q + 1 + m) (q + 1 + m)), (15, .int .i64 (divsM (j + 1) m (divN x (j + 1)) : Nat)), (16, .int .i64 n), (85, .bool false)] σ'
      rw [← k1]
      have hw : wrapA .i64 ((j : Int) + 1) = ((j + 1 : Nat) : Int) := by rw [wrapA_id (by omega) (by omega)]; omega
      have w0 : 0 < j + 1 := by omega
      have w1 : (x : Int).tmod ((j + 1 : Nat) : Int) = ((modN x (j + 1) : Nat) : Int) := rfl
      have w2 : (x : Int) % ((j + 1 : Nat) : Int) = ((modN x (j + 1) : Nat) : Int) := rfl
      have w3 : (x : Int).tdiv ((j + 1 : Nat) : Int) = ((divN x (j + 1) : Nat) : Int) := rfl
      have w4 : (x : Int) / ((j + 1 : Nat) : Int) = ((divN x (j + 1) : Nat) : Int) := rfl
      have w5 : wrapA .i64 ((divN x (j + 1) : Nat) : Int) = ((divN x (j + 1) : Nat) : Int) := wrapA_id (by omega) (by omega)
      generalize divN x (j + 1) = dx at *
      generalize modN x (j + 1) = mx at *
      generalize j + 1 = j1 at *
      clear ih k1
      rw [fi17, xl17_2]
      simp only [B17_2, b17, Try.f17, Option.getD, fstC, sndC, bodyC, thnC, elsC]
      simp (maxSteps := 1000000) (disch := omega) [xI_seq, xI_region, xI_ret, regA, regOps, runOps, opStep, wantedA, opA, evo, evos, calleeA, lk, nif_eq, putE, paramsE, valS, val2, keepE, restrict, finA, resA, binA, binInt, ofConst, ofConst1, loadA, TK.isAgg, asVar, unA, builtinA, lenOpA, lenA, indexAddrA, evPairs, storeA, AV.cellsOf, pairsOf, xI_nil, binBool, gcE, evOpt, runTr, pairsOk, pairOk, sameVal, AV.eqv, lastOf, lstAt, eqvs, boundA, indexA, regF, twoOf, prsOf, memI, runTrF, selF, runTr2, freshOp, scals, AV.scal, xI_block, xI_loopH, xI_condM, xI_exitM, xI_skip, xI_blk, exitA, List.getElem?_cons_zero, List.getElem?_cons_succ, List.getElem?_toArray, List.getElem?_nil, ileb_t, ileb_f, ieqb_t, ieqb_f, inB_t, wrapA_id, lp_read, ieqb_self, Nat.blt_eq, cond_true, cond_false, ty2, ty4, ty22, eK17_0_0, eK17_1_2, eK17_2_4, eK17_2_3, eK17_2_2, eK17_3_6, eK17_4_8, eK17_5_10, eK17_5_9, eK17_5_8, eK17_6_12, eK17_6_9, eK17_6_8, eK17_7_14, e2, c2, hw, w1, w2, w3, w4, w5]
    · rw [k4 c (by omega) (by omega), o2 c hc hcn]

set_option maxHeartbeats 2000000 in
theorem e17 (n k many b9 b10 all : Nat) (V13 V21 V23 : AV) (hn : n ≤ 5) : ∀ (m j x q : Nat) (cs : List Int) (b : Nat) (σ : St), j + m = n → x ≤ 100000 → q = cs.length → q + m ≤ 100 → Row σ b cs →
    ∃ σ' b', exI TT (FI.of Try.f17 (TT.an 17)) K17_5 [(5, .int .i64 n), (6, .int .i64 k), (7, .int .i64 many), (8, .bool true), (9, .sl b9 0 many many), (10, .sl b10 0 many many), (11, .int .i64 all), (21, V21), (23, V23), (24, .sl b 0 q q), (25, .int .i64 x), (26, .int .i64 j)] σ = exI TT (FI.of Try.f17 (TT.an 17)) R17_5_10 [(5, .int .i64 n), (6, .int .i64 k), (7, .int .i64 many), (8, .bool true), (9, .sl b9 0 many many), (10, .sl b10 0 many many), (11, .int .i64 all), (21, V21), (23, V23), (24, .sl b' 0 (q + m) (q + m)), (25, .int .i64 (divsM j m x : Nat)), (26, .int .i64 n), (158, .bool false)] σ' ∧ Row σ' b' (cs ++ digsM j m x) ∧ σ.n ≤ σ'.n ∧ ∀ c, c ≠ b → c < σ.n → σ'.get c = σ.get c := by
  intro m
  induction m with
  | zero =>
    intro j x q cs b σ hj hx hq hqk hr
    have : j = n := by omega
    subst this
    refine ⟨σ, b, ?_, by simpa [digsM] using hr, Nat.le_refl _, fun _ _ _ => rfl⟩
    rw [fi17, xl17_5]
    simp only [B17_5, b17, Try.f17, Option.getD, fstC, sndC, bodyC, thnC, elsC]
    simp (maxSteps := 1000000) (disch := omega) [xI_seq, xI_region, xI_ret, regA, regOps, runOps, opStep, wantedA, opA, evo, evos, calleeA, lk, nif_eq, putE, paramsE, valS, val2, keepE, restrict, finA, resA, binA, binInt, ofConst, ofConst1, loadA, TK.isAgg, asVar, unA, builtinA, lenOpA, lenA, indexAddrA, evPairs, storeA, AV.cellsOf, pairsOf, xI_nil, binBool, gcE, evOpt, runTr, pairsOk, pairOk, sameVal, AV.eqv, lastOf, lstAt, eqvs, boundA, indexA, regF, twoOf, prsOf, memI, runTrF, selF, runTr2, freshOp, scals, AV.scal, xI_block, xI_loopH, xI_condM, xI_exitM, xI_skip, xI_blk, exitA, List.getElem?_cons_zero, List.getElem?_cons_succ, List.getElem?_toArray, List.getElem?_nil, ileb_t, ileb_f, ieqb_t, ieqb_f, inB_t, wrapA_id, lp_read, ieqb_self, Nat.blt_eq, cond_true, cond_false, ty2, ty4, ty22, eK17_0_0, eK17_1_2, eK17_2_4, eK17_2_3, eK17_2_2, eK17_3_6, eK17_4_8, eK17_5_10, eK17_5_9, eK17_5_8, eK17_6_12, eK17_6_9, eK17_6_8, eK17_7_14]
    rfl
  | succ m ih =>
    intro j x q cs b σ hj hx hq hqk hr
    have hbl := hr.lt
    have e2 := fun σ => bs22 σ ((modN x (j + 1) : Nat) : Int)
    obtain ⟨σ2, c2, r2, n2, o2⟩ := append_row (T := TT) (x := ((modN x (j + 1) : Nat) : Int)) ty22 ty2 hr hq (by omega)
    have hdx : divN x (j + 1) ≤ 100000 := Nat.le_trans (Nat.div_le_self _ _) hx
    obtain ⟨σ', b', k1, k2, k3, k4⟩ := ih (j + 1) (divN x (j + 1)) (q + 1) (cs ++ [((modN x (j + 1) : Nat) : Int)]) _ σ2 (by omega) hdx (by simp [hq]) (by omega) r2
    refine ⟨σ', b', ?_, by simpa [digsM] using k2, by omega, fun c hc hcn => ?_⟩
    · rw [show q + (m + 1) = q + 1 + m by omega]
      show _ = exI TT (FI.of Try.f17 (TT.an 17)) R17_5_10 [(5, .int .i64 n), (6, .int .i64 k), (7, .int .i64 many), (8, .bool true), (9, .sl b9 0 many many), (10, .sl b10 0 many many), (11, .int .i64 all), (21, V21), (23, V23), (24, .sl b' 0 (q + 1 + m) (q + 1 + m)), (25, .int .i64 (divsM (j + 1) m (divN x (j + 1)) : Nat)), (26, .int .i64 n), (158, .bool false)] σ'
      rw [← k1]
      have hw : wrapA .i64 ((j : Int) + 1) = ((j + 1 : Nat) : Int) := by rw [wrapA_id (by omega) (by omega)]; omega
      have w0 : 0 < j + 1 := by omega
      have w1 : (x : Int).tmod ((j + 1 : Nat) : Int) = ((modN x (j + 1) : Nat) : Int) := rfl
      have w2 : (x : Int) % ((j + 1 : Nat) : Int) = ((modN x (j + 1) : Nat) : Int) := rfl
      have w3 : (x : Int).tdiv ((j + 1 : Nat) : Int) = ((divN x (j + 1) : Nat) : Int) := rfl
      have w4 : (x : Int) / ((j + 1 : Nat) : Int) = ((divN x (j + 1) : Nat) : Int) := rfl
      have w5 : wrapA .i64 ((divN x (j + 1) : Nat) : Int) = ((divN x (j + 1) : Nat) : Int) := wrapA_id (by omega) (by omega)
      generalize divN x (j + 1) = dx at *
      generalize modN x (j + 1) = mx at *
      generalize j + 1 = j1 at *
      clear ih k1
      rw [fi17, xl17_5]
      simp only [B17_5, b17, Try.f17, Option.getD, fstC, sndC, bodyC, thnC, elsC]
      simp (maxSteps := 1000000) (disch := omega) [xI_seq, xI_region, xI_ret, regA, regOps, runOps, opStep, wantedA, opA, evo, evos, calleeA, lk, nif_eq, putE, paramsE, valS, val2, keepE, restrict, finA, resA, binA, binInt, ofConst, ofConst1, loadA, TK.isAgg, asVar, unA, builtinA, lenOpA, lenA, indexAddrA, evPairs, storeA, AV.cellsOf, pairsOf, xI_nil, binBool, gcE, evOpt, runTr, pairsOk, pairOk, sameVal, AV.eqv, lastOf, lstAt, eqvs, boundA, indexA, regF, twoOf, prsOf, memI, runTrF, selF, runTr2, freshOp, scals, AV.scal, xI_block, xI_loopH, xI_condM, xI_exitM, xI_skip, xI_blk, exitA, List.getElem?_cons_zero, List.getElem?_cons_succ, List.getElem?_toArray, List.getElem?_nil, ileb_t, ileb_f, ieqb_t, ieqb_f, inB_t, wrapA_id, lp_read, ieqb_self, Nat.blt_eq, cond_true, cond_false, ty2, ty4, ty22, eK17_0_0, eK17_1_2, eK17_2_4, eK17_2_3, eK17_2_2, eK17_3_6, eK17_4_8, eK17_5_10, eK17_5_9, eK17_5_8, eK17_6_12, eK17_6_9, eK17_6_8, eK17_7_14, e2, c2, hw, w1, w2, w3, w4, w5]
    · rw [k4 c (by omega) (by omega), o2 c hc hcn]

theorem okR_spec {n k many : Nat} {s : List Int} (h : okR n k many s = true) : s.length = k ∧ rkO n s = true ∧ 0 ≤ rkV n s ∧ rkV n s < many := by
  simp only [okR, Bool.and_eq_true] at h
  have := inR_iff.1 h.2.2
  exact ⟨Nat.eq_of_beq_eq_true h.1, h.2.1, this.1, by omega⟩
set_option maxHeartbeats 4000000 in
theorem s17 (n k many b9 b10 all : Nat) (h1 : 1 ≤ n) (hn : n ≤ 5) (hk : k ≤ n) (hA : all ≤ 1000) (hbb : b9 ≠ b10) : ∀ (m x : Nat) (a a' bb : List Int) (σ : St), x + m = all → a.length = many → (∀ j, 0 ≤ at0 a j ∧ at0 a j ≤ x) → Row σ b9 a → Row σ b10 bb → smpA n k many m x a = some a' →
    ∃ σ', exI TT (FI.of Try.f17 (TT.an 17)) K17_1 [(5, .int .i64 n), (6, .int .i64 k), (7, .int .i64 many), (8, .bool true), (9, .sl b9 0 many many), (10, .sl b10 0 many many), (11, .int .i64 all), (13, .int .i64 x)] σ = exI TT (FI.of Try.f17 (TT.an 17)) R17_1_2 [(5, .int .i64 n), (6, .int .i64 k), (7, .int .i64 many), (8, .bool true), (9, .sl b9 0 many many), (10, .sl b10 0 many many), (11, .int .i64 all), (13, .int .i64 all), (75, .bool false)] σ' ∧ Row σ' b9 a' ∧ Row σ' b10 bb ∧ a'.length = many ∧ ∀ j, 0 ≤ at0 a' j ∧ at0 a' j ≤ all := by
  intro m
  induction m with
  | zero =>
    intro x a a' bb σ hx hl hb r9 r10 ho
    cases ho
    have : x = all := by omega
    subst this
    refine ⟨σ, ?_, r9, r10, hl, hb⟩
    rw [fi17, xl17_1]
    simp only [B17_1, b17, Try.f17, Option.getD, fstC, sndC, bodyC, thnC, elsC]
    simp (maxSteps := 1000000) (disch := omega) [xI_seq, xI_region, xI_ret, regA, regOps, runOps, opStep, wantedA, opA, evo, evos, calleeA, lk, nif_eq, putE, paramsE, valS, val2, keepE, restrict, finA, resA, binA, binInt, ofConst, ofConst1, loadA, TK.isAgg, asVar, unA, builtinA, lenOpA, lenA, indexAddrA, evPairs, storeA, AV.cellsOf, pairsOf, xI_nil, binBool, gcE, evOpt, runTr, pairsOk, pairOk, sameVal, AV.eqv, lastOf, lstAt, eqvs, boundA, indexA, regF, twoOf, prsOf, memI, runTrF, selF, runTr2, freshOp, scals, AV.scal, xI_block, xI_loopH, xI_condM, xI_exitM, xI_skip, xI_blk, exitA, List.getElem?_cons_zero, List.getElem?_cons_succ, List.getElem?_toArray, List.getElem?_nil, ileb_t, ileb_f, ieqb_t, ieqb_f, inB_t, wrapA_id, lp_read, ieqb_self, Nat.blt_eq, cond_true, cond_false, ty2, ty4, ty22, eK17_0_0, eK17_1_2, eK17_2_4, eK17_2_3, eK17_2_2, eK17_3_6, eK17_4_8, eK17_5_10, eK17_5_9, eK17_5_8, eK17_6_12, eK17_6_9, eK17_6_8, eK17_7_14]
  | succ m ih =>
    intro x a a' bb σ hx hl hb r9 r10 ho
    rw [smpA] at ho
    have hb9 := r9.lt
    have hb10 := r10.lt
    obtain ⟨σ1, b1, c1, r1, n1, o1⟩ := d17 n k many b9 b10 all (.int .i64 x) .und .und hn k (n - k) x 0 [] σ.n (σ.push ⟨ints [], 1, false⟩) (by omega) (by omega) rfl (by omega) Row.push
    rw [List.nil_append] at r1
    rw [Nat.zero_add] at c1
    simp only [n_push] at n1 o1
    have r9a := r9.keep (σ' := σ1) (by omega) (by rw [o1 b9 (by omega) (by omega), get_push_lt hb9])
    have r10a := r10.keep (σ' := σ1) (by omega) (by rw [o1 b10 (by omega) (by omega), get_push_lt hb10])
    have hdl := digsM_length k (n - k) x
    have hSB := o43 n (digsM (n - k) k x) (by omega)
    generalize digsM (n - k) k x = cs at *
    cases hs : sampR n cs with
    | none => rw [hs] at ho; cases ho
    | some s =>
      rw [hs] at ho hSB
      simp only [] at ho
      cases hok : okR n k many s with
      | false => rw [hok] at ho; cases ho
      | true =>
        rw [hok] at ho
        simp only [] at ho
        obtain ⟨s1, s2, s3, s4⟩ := okR_spec hok
        obtain ⟨b2, σ2, c2, r2, o2, e2⟩ := FnO.row hSB (σ := σ1) (args := [.int .i64 n, .sl b1 0 cs.length cs.length]) (mapO_cons rfl (mapO_cons (r1.frz rfl (Nat.le_refl _)) rfl))
        have c3 := v39 n s (by omega) σ2 [.int .i64 n, .sl b2 0 s.length s.length] (mapO_cons rfl (mapO_cons (r2.frz rfl (Nat.le_refl _)) rfl))
        rw [rankR_ok s2] at c3
        obtain ⟨rk, hrk⟩ : ∃ rk : Nat, rkV n s = rk := ⟨(rkV n s).toNat, by omega⟩
        rw [hrk] at c3 ho s4
        rw [Int.toNat_natCast] at ho
        obtain ⟨g3, w3, σ3, s3, q3, n3, k3⟩ := inc_row (k := rk) (r9a.old o2) (by omega) hb (by omega)
        have r10b := (r10a.old o2).keep (Nat.le_of_eq n3.symm) (k3 b10 (fun e => hbb e.symm))
        obtain ⟨σ', z1, z2, z3, z4⟩ := ih (x + 1) _ a' bb σ3 (by omega) (by rw [inc1_length]; exact hl) (by have := inc1_bound (k := rk) (by omega) hb; simpa using this) q3 r10b ho
        refine ⟨σ', ?_, z2, z3, z4⟩
        rw [← z1]
        rw [hdl] at c2
        rw [s1] at c2 c3
        have hw : wrapA .i64 ((x : Int) + 1) = ((x + 1 : Nat) : Int) := by rw [wrapA_id (by omega) (by omega)]; omega
        have hw5 : wrapA .i64 ((n : Int) - (k : Int)) = ((n - k : Nat) : Int) := by rw [wrapA_id (by omega) (by omega)]; omega
        have e15 := fun σ => bn22 σ
        generalize x + 1 = x1 at *
        generalize divsM (n - k) k x = dv at *
        generalize n - k = nk at *
        clear ih ho z1 hSB hs hok
        rw [fi17] at c1 ⊢
        rw [xl17_1]
        simp only [B17_1, b17, Try.f17, Option.getD, fstC, sndC, bodyC, thnC, elsC]
        simp (maxSteps := 1000000) (disch := omega) [xI_seq, xI_region, xI_ret, regA, regOps, runOps, opStep, wantedA, opA, evo, evos, calleeA, lk, nif_eq, putE, paramsE, valS, val2, keepE, restrict, finA, resA, binA, binInt, ofConst, ofConst1, loadA, TK.isAgg, asVar, unA, builtinA, lenOpA, lenA, indexAddrA, evPairs, storeA, AV.cellsOf, pairsOf, xI_nil, binBool, gcE, evOpt, runTr, pairsOk, pairOk, sameVal, AV.eqv, lastOf, lstAt, eqvs, boundA, indexA, regF, twoOf, prsOf, memI, runTrF, selF, runTr2, freshOp, scals, AV.scal, xI_block, xI_loopH, xI_condM, xI_exitM, xI_skip, xI_blk, exitA, List.getElem?_cons_zero, List.getElem?_cons_succ, List.getElem?_toArray, List.getElem?_nil, ileb_t, ileb_f, ieqb_t, ieqb_f, inB_t, wrapA_id, lp_read, ieqb_self, Nat.blt_eq, cond_true, cond_false, ty2, ty4, ty22, eK17_0_0, eK17_1_2, eK17_2_4, eK17_2_3, eK17_2_2, eK17_3_6, eK17_4_8, eK17_5_10, eK17_5_9, eK17_5_8, eK17_6_12, eK17_6_9, eK17_6_8, eK17_7_14, e15, hw5]
        refine c1.trans ?_
        simp only [R17_2_4, b17, Try.f17, Option.getD, fstC, sndC, bodyC, thnC, elsC]
        simp (maxSteps := 1000000) (disch := omega) [xI_seq, xI_region, xI_ret, regA, regOps, runOps, opStep, wantedA, opA, evo, evos, calleeA, lk, nif_eq, putE, paramsE, valS, val2, keepE, restrict, finA, resA, binA, binInt, ofConst, ofConst1, loadA, TK.isAgg, asVar, unA, builtinA, lenOpA, lenA, indexAddrA, evPairs, storeA, AV.cellsOf, pairsOf, xI_nil, binBool, gcE, evOpt, runTr, pairsOk, pairOk, sameVal, AV.eqv, lastOf, lstAt, eqvs, boundA, indexA, regF, twoOf, prsOf, memI, runTrF, selF, runTr2, freshOp, scals, AV.scal, xI_block, xI_loopH, xI_condM, xI_exitM, xI_skip, xI_blk, exitA, List.getElem?_cons_zero, List.getElem?_cons_succ, List.getElem?_toArray, List.getElem?_nil, ileb_t, ileb_f, ieqb_t, ieqb_f, inB_t, wrapA_id, lp_read, ieqb_self, Nat.blt_eq, cond_true, cond_false, ty2, ty4, ty22, eK17_0_0, eK17_1_2, eK17_2_4, eK17_2_3, eK17_2_2, eK17_3_6, eK17_4_8, eK17_5_10, eK17_5_9, eK17_5_8, eK17_6_12, eK17_6_9, eK17_6_8, eK17_7_14, c2, c3, g3, w3, s3, hw]
set_option maxHeartbeats 2000000 in
theorem h17 (n k many b9 b10 all turns : Nat) (V23 : AV) (hn : n ≤ 5) (sl : List Int) (bs : Nat) (hks : k = sl.length) (hk5 : k ≤ 5) : ∀ (m i q : Nat) (cs : List Int) (b : Nat) (σ : St), i + m = n → q = cs.length → q + m ≤ 100 → b ≠ bs → Row σ b cs → Row σ bs sl →
    ∃ σ' b', exI TT (FI.of Try.f17 (TT.an 17)) K17_6 [(5, .int .i64 n), (6, .int .i64 k), (7, .int .i64 many), (8, .bool true), (9, .sl b9 0 many many), (10, .sl b10 0 many many), (11, .int .i64 all), (21, .int .i64 turns), (23, V23), (27, .sl bs 0 k k), (29, .sl b 0 q q), (30, .int .i64 i)] σ = exI TT (FI.of Try.f17 (TT.an 17)) R17_6_12 [(5, .int .i64 n), (6, .int .i64 k), (7, .int .i64 many), (8, .bool true), (9, .sl b9 0 many many), (10, .sl b10 0 many many), (11, .int .i64 all), (21, .int .i64 turns), (23, V23), (27, .sl bs 0 k k), (29, .sl b' 0 (q + (setOf sl m i).length) (q + (setOf sl m i).length)), (30, .int .i64 n), (189, .bool false)] σ' ∧ Row σ' b' (cs ++ setOf sl m i) ∧ σ.n ≤ σ'.n ∧ ∀ c, c ≠ b → c < σ.n → σ'.get c = σ.get c := by
  intro m
  induction m with
  | zero =>
    intro i q cs b σ hi hq hqk hne hr hrs
    have : i = n := by omega
    subst this
    refine ⟨σ, b, ?_, by simpa [setOf] using hr, Nat.le_refl _, fun _ _ _ => rfl⟩
    rw [fi17, xl17_6]
    simp only [B17_6, b17, Try.f17, Option.getD, fstC, sndC, bodyC, thnC, elsC]
    simp (maxSteps := 1000000) (disch := omega) [xI_seq, xI_region, xI_ret, regA, regOps, runOps, opStep, wantedA, opA, evo, evos, calleeA, lk, nif_eq, putE, paramsE, valS, val2, keepE, restrict, finA, resA, binA, binInt, ofConst, ofConst1, loadA, TK.isAgg, asVar, unA, builtinA, lenOpA, lenA, indexAddrA, evPairs, storeA, AV.cellsOf, pairsOf, xI_nil, binBool, gcE, evOpt, runTr, pairsOk, pairOk, sameVal, AV.eqv, lastOf, lstAt, eqvs, boundA, indexA, regF, twoOf, prsOf, memI, runTrF, selF, runTr2, freshOp, scals, AV.scal, xI_block, xI_loopH, xI_condM, xI_exitM, xI_skip, xI_blk, exitA, List.getElem?_cons_zero, List.getElem?_cons_succ, List.getElem?_toArray, List.getElem?_nil, ileb_t, ileb_f, ieqb_t, ieqb_f, inB_t, wrapA_id, lp_read, ieqb_self, Nat.blt_eq, cond_true, cond_false, ty2, ty4, ty22, eK17_0_0, eK17_1_2, eK17_2_4, eK17_2_3, eK17_2_2, eK17_3_6, eK17_4_8, eK17_5_10, eK17_5_9, eK17_5_8, eK17_6_12, eK17_6_9, eK17_6_8, eK17_7_14]
    rfl
  | succ m ih =>
    intro i q cs b σ hi hq hqk hne hr hrs
    have hbl := hr.lt
    have hbs := hrs.lt
    have e1 := v58 sl k hks (by omega) (i : Int) σ [.sl bs 0 k k, .int .i64 i] (mapO_cons (hrs.frz hks (Nat.le_refl _)) rfl)
    have hw : wrapA .i64 ((i : Int) + 1) = ((i + 1 : Nat) : Int) := by rw [wrapA_id (by omega) (by omega)]; omega
    by_cases hm : (i : Int) ∈ sl
    · rw [decide_eq_true hm] at e1
      have e2 := fun σ => bs22 σ (i : Int)
      obtain ⟨σ2, c2, r2, n2, o2⟩ := append_row (T := TT) (x := (i : Int)) ty22 ty2 hr hq (by omega)
      obtain ⟨σ', b', k1, k2, k3, k4⟩ := ih (i + 1) (q + 1) (cs ++ [(i : Int)]) _ σ2 (by omega) (by simp [hq]) (by omega) (by omega) r2 (hrs.keep (by omega) (o2 bs (fun e => hne e.symm) hbs))
      have hso : setOf sl (m + 1) i = (i : Int) :: setOf sl m (i + 1) := by rw [setOf, if_pos hm]
      rw [hso]
      refine ⟨σ', b', ?_, by simpa using k2, by omega, fun c hc hcn => ?_⟩
      · rw [List.length_cons, show q + ((setOf sl m (i + 1)).length + 1) = q + 1 + (setOf sl m (i + 1)).length by omega, ← k1]
        generalize i + 1 = i1 at *
        clear ih k1
        rw [fi17, xl17_6]
        simp only [B17_6, b17, Try.f17, Option.getD, fstC, sndC, bodyC, thnC, elsC]
        simp (maxSteps := 1000000) (disch := omega) [xI_seq, xI_region, xI_ret, regA, regOps, runOps, opStep, wantedA, opA, evo, evos, calleeA, lk, nif_eq, putE, paramsE, valS, val2, keepE, restrict, finA, resA, binA, binInt, ofConst, ofConst1, loadA, TK.isAgg, asVar, unA, builtinA, lenOpA, lenA, indexAddrA, evPairs, storeA, AV.cellsOf, pairsOf, xI_nil, binBool, gcE, evOpt, runTr, pairsOk, pairOk, sameVal, AV.eqv, lastOf, lstAt, eqvs, boundA, indexA, regF, twoOf, prsOf, memI, runTrF, selF, runTr2, freshOp, scals, AV.scal, xI_block, xI_loopH, xI_condM, xI_exitM, xI_skip, xI_blk, exitA, List.getElem?_cons_zero, List.getElem?_cons_succ, List.getElem?_toArray, List.getElem?_nil, ileb_t, ileb_f, ieqb_t, ieqb_f, inB_t, wrapA_id, lp_read, ieqb_self, Nat.blt_eq, cond_true, cond_false, ty2, ty4, ty22, eK17_0_0, eK17_1_2, eK17_2_4, eK17_2_3, eK17_2_2, eK17_3_6, eK17_4_8, eK17_5_10, eK17_5_9, eK17_5_8, eK17_6_12, eK17_6_9, eK17_6_8, eK17_7_14, e1, e2, c2, hw]
      · rw [k4 c (by omega) (by omega), o2 c hc hcn]
    · rw [decide_eq_false hm] at e1
      obtain ⟨σ', b', k1, k2, k3, k4⟩ := ih (i + 1) q cs b σ (by omega) hq (by omega) hne hr hrs
      have hso : setOf sl (m + 1) i = setOf sl m (i + 1) := by rw [setOf, if_neg hm]
      rw [hso]
      refine ⟨σ', b', ?_, k2, k3, k4⟩
      rw [← k1]
      generalize i + 1 = i1 at *
      clear ih k1
      rw [fi17, xl17_6]
      simp only [B17_6, b17, Try.f17, Option.getD, fstC, sndC, bodyC, thnC, elsC]
      simp (maxSteps := 1000000) (disch := omega) [xI_seq, xI_region, xI_ret, regA, regOps, runOps, opStep, wantedA, opA, evo, evos, calleeA, lk, nif_eq, putE, paramsE, valS, val2, keepE, restrict, finA, resA, binA, binInt, ofConst, ofConst1, loadA, TK.isAgg, asVar, unA, builtinA, lenOpA, lenA, indexAddrA, evPairs, storeA, AV.cellsOf, pairsOf, xI_nil, binBool, gcE, evOpt, runTr, pairsOk, pairOk, sameVal, AV.eqv, lastOf, lstAt, eqvs, boundA, indexA, regF, twoOf, prsOf, memI, runTrF, selF, runTr2, freshOp, scals, AV.scal, xI_block, xI_loopH, xI_condM, xI_exitM, xI_skip, xI_blk, exitA, List.getElem?_cons_zero, List.getElem?_cons_succ, List.getElem?_toArray, List.getElem?_nil, ileb_t, ileb_f, ieqb_t, ieqb_f, inB_t, wrapA_id, lp_read, ieqb_self, Nat.blt_eq, cond_true, cond_false, ty2, ty4, ty22, eK17_0_0, eK17_1_2, eK17_2_4, eK17_2_3, eK17_2_2, eK17_3_6, eK17_4_8, eK17_5_10, eK17_5_9, eK17_5_8, eK17_6_12, eK17_6_9, eK17_6_8, eK17_7_14, e1, hw]
set_option maxHeartbeats 4000000 in
theorem t17 (n k many b9 b10 all turns : Nat) (h1 : 1 ≤ n) (hn : n ≤ 5) (hk : k ≤ n) (hA : turns ≤ 1000) (hbb : b9 ≠ b10) (a : List Int) : ∀ (m x : Nat) (bb bb' : List Int) (σ : St), x + m = turns → bb.length = many → (∀ j, 0 ≤ at0 bb j ∧ at0 bb j ≤ x) → Row σ b9 a → Row σ b10 bb → smpB n k many m x bb = some bb' →
    ∃ σ', exI TT (FI.of Try.f17 (TT.an 17)) K17_4 [(5, .int .i64 n), (6, .int .i64 k), (7, .int .i64 many), (8, .bool true), (9, .sl b9 0 many many), (10, .sl b10 0 many many), (11, .int .i64 all), (21, .int .i64 turns), (23, .int .i64 x)] σ = exI TT (FI.of Try.f17 (TT.an 17)) R17_4_8 [(5, .int .i64 n), (6, .int .i64 k), (7, .int .i64 many), (8, .bool true), (9, .sl b9 0 many many), (10, .sl b10 0 many many), (11, .int .i64 all), (21, .int .i64 turns), (23, .int .i64 turns), (150, .bool false)] σ' ∧ Row σ' b9 a ∧ Row σ' b10 bb' ∧ bb'.length = many ∧ ∀ j, 0 ≤ at0 bb' j ∧ at0 bb' j ≤ turns := by
  intro m
  induction m with
  | zero =>
    intro x bb bb' σ hx hl hb r9 r10 ho
    cases ho
    have : x = turns := by omega
    subst this
    refine ⟨σ, ?_, r9, r10, hl, hb⟩
    rw [fi17, xl17_4]
    simp only [B17_4, b17, Try.f17, Option.getD, fstC, sndC, bodyC, thnC, elsC]
    simp (maxSteps := 1000000) (disch := omega) [xI_seq, xI_region, xI_ret, regA, regOps, runOps, opStep, wantedA, opA, evo, evos, calleeA, lk, nif_eq, putE, paramsE, valS, val2, keepE, restrict, finA, resA, binA, binInt, ofConst, ofConst1, loadA, TK.isAgg, asVar, unA, builtinA, lenOpA, lenA, indexAddrA, evPairs, storeA, AV.cellsOf, pairsOf, xI_nil, binBool, gcE, evOpt, runTr, pairsOk, pairOk, sameVal, AV.eqv, lastOf, lstAt, eqvs, boundA, indexA, regF, twoOf, prsOf, memI, runTrF, selF, runTr2, freshOp, scals, AV.scal, xI_block, xI_loopH, xI_condM, xI_exitM, xI_skip, xI_blk, exitA, List.getElem?_cons_zero, List.getElem?_cons_succ, List.getElem?_toArray, List.getElem?_nil, ileb_t, ileb_f, ieqb_t, ieqb_f, inB_t, wrapA_id, lp_read, ieqb_self, Nat.blt_eq, cond_true, cond_false, ty2, ty4, ty22, eK17_0_0, eK17_1_2, eK17_2_4, eK17_2_3, eK17_2_2, eK17_3_6, eK17_4_8, eK17_5_10, eK17_5_9, eK17_5_8, eK17_6_12, eK17_6_9, eK17_6_8, eK17_7_14]
  | succ m ih =>
    intro x bb bb' σ hx hl hb r9 r10 ho
    rw [smpB] at ho
    have hb9 := r9.lt
    have hb10 := r10.lt
    obtain ⟨σ1, b1, c1, r1, n1, o1⟩ := e17 n k many b9 b10 all .und (.int .i64 turns) (.int .i64 x) hn (n - k) k x 0 [] σ.n (σ.push ⟨ints [], 1, false⟩) (by omega) (by omega) rfl (by omega) Row.push
    rw [List.nil_append] at r1
    rw [Nat.zero_add] at c1
    simp only [n_push] at n1 o1
    have r9a := r9.keep (σ' := σ1) (by omega) (by rw [o1 b9 (by omega) (by omega), get_push_lt hb9])
    have r10a := r10.keep (σ' := σ1) (by omega) (by rw [o1 b10 (by omega) (by omega), get_push_lt hb10])
    have hdl := digsM_length (n - k) k x
    have hRB := o22 k (digsM k (n - k) x) (by omega)
    generalize digsM k (n - k) x = cs at *
    cases hs : resvR k cs with
    | none => rw [hs] at ho; cases ho
    | some sl =>
      rw [hs] at ho hRB
      simp only [] at ho
      cases hok : (Nat.beq sl.length k && okR n k many (setOf sl n 0)) with
      | false => rw [hok] at ho; cases ho
      | true =>
        rw [hok] at ho
        simp only [] at ho
        simp only [Bool.and_eq_true] at hok
        have hsl := Nat.eq_of_beq_eq_true hok.1
        obtain ⟨s1, s2, s3, s4⟩ := okR_spec hok.2
        obtain ⟨b2, σ2, c2, r2, o2, e2⟩ := FnO.row hRB (σ := σ1) (args := [.int .i64 k, .sl b1 0 cs.length cs.length]) (mapO_cons rfl (mapO_cons (r1.frz rfl (Nat.le_refl _)) rfl))
        have r9b := r9a.old o2
        have r10b := r10a.old o2
        have hb2 := r2.lt
        have hb9b := r9b.lt
        have hb10b := r10b.lt
        obtain ⟨σ4, b4, c4, r4, n4, o4⟩ := h17 n k many b9 b10 all turns (.int .i64 x) hn sl b2 hsl.symm (by omega) n 0 0 [] σ2.n (σ2.push ⟨ints [], 1, false⟩) (by omega) rfl (by omega) (by omega) Row.push r2.pushed
        rw [List.nil_append] at r4
        rw [Nat.zero_add, s1] at c4
        simp only [n_push] at n4 o4
        have r9c := r9b.keep (σ' := σ4) (by omega) (by rw [o4 b9 (by omega) (by omega), get_push_lt hb9b])
        have r10c := r10b.keep (σ' := σ4) (by omega) (by rw [o4 b10 (by omega) (by omega), get_push_lt hb10b])
        generalize setOf sl n 0 = s at *
        have c5 := v38 n s (by omega) σ4 [.int .i64 n, .sl b4 0 s.length s.length] (mapO_cons rfl (mapO_cons (r4.frz rfl (Nat.le_refl _)) rfl))
        rw [rankR_ok s2] at c5
        obtain ⟨rk, hrk⟩ : ∃ rk : Nat, rkV n s = rk := ⟨(rkV n s).toNat, by omega⟩
        rw [hrk] at c5 ho s4
        rw [Int.toNat_natCast] at ho
        obtain ⟨g3, w3, σ3, s3, q3, n3, k3⟩ := inc_row (k := rk) r10c (by omega) hb (by omega)
        have r9d := r9c.keep (Nat.le_of_eq n3.symm) (k3 b9 hbb)
        obtain ⟨σ', z1, z2, z3, z4⟩ := ih (x + 1) _ bb' σ3 (by omega) (by rw [inc1_length]; exact hl) (by have := inc1_bound (k := rk) (by omega) hb; simpa using this) r9d q3 ho
        refine ⟨σ', ?_, z2, z3, z4⟩
        rw [← z1]
        rw [hdl] at c2
        rw [hsl] at c2
        rw [s1] at c5
        have hw : wrapA .i64 ((x : Int) + 1) = ((x + 1 : Nat) : Int) := by rw [wrapA_id (by omega) (by omega)]; omega
        have e15 := fun σ => bn22 σ
        generalize x + 1 = x1 at *
        generalize divsM k (n - k) x = dv at *
        generalize n - k = nk at *
        simp only [show ((0 : Nat) : Int) = 0 from rfl] at c4
        clear ih ho z1 hRB hs hok
        rw [fi17] at c1 c4 ⊢
        rw [xl17_4]
        simp only [B17_4, b17, Try.f17, Option.getD, fstC, sndC, bodyC, thnC, elsC]
        simp (maxSteps := 1000000) (disch := omega) [xI_seq, xI_region, xI_ret, regA, regOps, runOps, opStep, wantedA, opA, evo, evos, calleeA, lk, nif_eq, putE, paramsE, valS, val2, keepE, restrict, finA, resA, binA, binInt, ofConst, ofConst1, loadA, TK.isAgg, asVar, unA, builtinA, lenOpA, lenA, indexAddrA, evPairs, storeA, AV.cellsOf, pairsOf, xI_nil, binBool, gcE, evOpt, runTr, pairsOk, pairOk, sameVal, AV.eqv, lastOf, lstAt, eqvs, boundA, indexA, regF, twoOf, prsOf, memI, runTrF, selF, runTr2, freshOp, scals, AV.scal, xI_block, xI_loopH, xI_condM, xI_exitM, xI_skip, xI_blk, exitA, List.getElem?_cons_zero, List.getElem?_cons_succ, List.getElem?_toArray, List.getElem?_nil, ileb_t, ileb_f, ieqb_t, ieqb_f, inB_t, wrapA_id, lp_read, ieqb_self, Nat.blt_eq, cond_true, cond_false, ty2, ty4, ty22, eK17_0_0, eK17_1_2, eK17_2_4, eK17_2_3, eK17_2_2, eK17_3_6, eK17_4_8, eK17_5_10, eK17_5_9, eK17_5_8, eK17_6_12, eK17_6_9, eK17_6_8, eK17_7_14, e15]
        refine c1.trans ?_
        simp only [R17_5_10, b17, Try.f17, Option.getD, fstC, sndC, bodyC, thnC, elsC]
        simp (maxSteps := 1000000) (disch := omega) [xI_seq, xI_region, xI_ret, regA, regOps, runOps, opStep, wantedA, opA, evo, evos, calleeA, lk, nif_eq, putE, paramsE, valS, val2, keepE, restrict, finA, resA, binA, binInt, ofConst, ofConst1, loadA, TK.isAgg, asVar, unA, builtinA, lenOpA, lenA, indexAddrA, evPairs, storeA, AV.cellsOf, pairsOf, xI_nil, binBool, gcE, evOpt, runTr, pairsOk, pairOk, sameVal, AV.eqv, lastOf, lstAt, eqvs, boundA, indexA, regF, twoOf, prsOf, memI, runTrF, selF, runTr2, freshOp, scals, AV.scal, xI_block, xI_loopH, xI_condM, xI_exitM, xI_skip, xI_blk, exitA, List.getElem?_cons_zero, List.getElem?_cons_succ, List.getElem?_toArray, List.getElem?_nil, ileb_t, ileb_f, ieqb_t, ieqb_f, inB_t, wrapA_id, lp_read, ieqb_self, Nat.blt_eq, cond_true, cond_false, ty2, ty4, ty22, eK17_0_0, eK17_1_2, eK17_2_4, eK17_2_3, eK17_2_2, eK17_3_6, eK17_4_8, eK17_5_10, eK17_5_9, eK17_5_8, eK17_6_12, eK17_6_9, eK17_6_8, eK17_7_14, c2, e15]
        refine c4.trans ?_
        simp only [R17_6_12, b17, Try.f17, Option.getD, fstC, sndC, bodyC, thnC, elsC]
        simp (maxSteps := 1000000) (disch := omega) [xI_seq, xI_region, xI_ret, regA, regOps, runOps, opStep, wantedA, opA, evo, evos, calleeA, lk, nif_eq, putE, paramsE, valS, val2, keepE, restrict, finA, resA, binA, binInt, ofConst, ofConst1, loadA, TK.isAgg, asVar, unA, builtinA, lenOpA, lenA, indexAddrA, evPairs, storeA, AV.cellsOf, pairsOf, xI_nil, binBool, gcE, evOpt, runTr, pairsOk, pairOk, sameVal, AV.eqv, lastOf, lstAt, eqvs, boundA, indexA, regF, twoOf, prsOf, memI, runTrF, selF, runTr2, freshOp, scals, AV.scal, xI_block, xI_loopH, xI_condM, xI_exitM, xI_skip, xI_blk, exitA, List.getElem?_cons_zero, List.getElem?_cons_succ, List.getElem?_toArray, List.getElem?_nil, ileb_t, ileb_f, ieqb_t, ieqb_f, inB_t, wrapA_id, lp_read, ieqb_self, Nat.blt_eq, cond_true, cond_false, ty2, ty4, ty22, eK17_0_0, eK17_1_2, eK17_2_4, eK17_2_3, eK17_2_2, eK17_3_6, eK17_4_8, eK17_5_10, eK17_5_9, eK17_5_8, eK17_6_12, eK17_6_9, eK17_6_8, eK17_7_14, c5, g3, w3, s3, hw]
set_option maxHeartbeats 4000000 in
theorem u17 (n k many b9 b10 all turns : Nat) (hn : n ≤ 5) (hk : k ≤ n) (hm10 : many ≤ 10) (hA : all ≤ 1000) (hB : turns ≤ 1000) (a bb : List Int) (hla : a.length = many) (hlb : bb.length = many) (ha : ∀ j, 0 ≤ at0 a j ∧ at0 a j ≤ all) (hb : ∀ j, 0 ≤ at0 bb j ∧ at0 bb j ≤ turns) : ∀ (m i : Nat) (σ : St), i + m = many → Row σ b9 a → Row σ b10 bb → smpC n k many all turns a bb m i = true →
    ∃ σ', exI TT (FI.of Try.f17 (TT.an 17)) K17_7 [(5, .int .i64 n), (6, .int .i64 k), (7, .int .i64 many), (8, .bool true), (9, .sl b9 0 many many), (10, .sl b10 0 many many), (11, .int .i64 all), (21, .int .i64 turns), (33, .int .i64 i)] σ = some (.bool true, σ') := by
  intro m
  induction m with
  | zero =>
    intro i σ hi r9 r10 ho
    have : i = many := by omega
    subst this
    refine ⟨σ, ?_⟩
    rw [fi17, xl17_7]
    simp only [B17_7, b17, Try.f17, Option.getD, fstC, sndC, bodyC, thnC, elsC]
    simp (maxSteps := 1000000) (disch := omega) [xI_seq, xI_region, xI_ret, regA, regOps, runOps, opStep, wantedA, opA, evo, evos, calleeA, lk, nif_eq, putE, paramsE, valS, val2, keepE, restrict, finA, resA, binA, binInt, ofConst, ofConst1, loadA, TK.isAgg, asVar, unA, builtinA, lenOpA, lenA, indexAddrA, evPairs, storeA, AV.cellsOf, pairsOf, xI_nil, binBool, gcE, evOpt, runTr, pairsOk, pairOk, sameVal, AV.eqv, lastOf, lstAt, eqvs, boundA, indexA, regF, twoOf, prsOf, memI, runTrF, selF, runTr2, freshOp, scals, AV.scal, xI_block, xI_loopH, xI_condM, xI_exitM, xI_skip, xI_blk, exitA, List.getElem?_cons_zero, List.getElem?_cons_succ, List.getElem?_toArray, List.getElem?_nil, ileb_t, ileb_f, ieqb_t, ieqb_f, inB_t, wrapA_id, lp_read, ieqb_self, Nat.blt_eq, cond_true, cond_false, ty2, ty4, ty22, eK17_0_0, eK17_1_2, eK17_2_4, eK17_2_3, eK17_2_2, eK17_3_6, eK17_4_8, eK17_5_10, eK17_5_9, eK17_5_8, eK17_6_12, eK17_6_9, eK17_6_8, eK17_7_14]
    simp only [R17_7_14, b17, Try.f17, Option.getD, fstC, sndC, bodyC, thnC, elsC]
    simp (maxSteps := 1000000) (disch := omega) [xI_seq, xI_region, xI_ret, regA, regOps, runOps, opStep, wantedA, opA, evo, evos, calleeA, lk, nif_eq, putE, paramsE, valS, val2, keepE, restrict, finA, resA, binA, binInt, ofConst, ofConst1, loadA, TK.isAgg, asVar, unA, builtinA, lenOpA, lenA, indexAddrA, evPairs, storeA, AV.cellsOf, pairsOf, xI_nil, binBool, gcE, evOpt, runTr, pairsOk, pairOk, sameVal, AV.eqv, lastOf, lstAt, eqvs, boundA, indexA, regF, twoOf, prsOf, memI, runTrF, selF, runTr2, freshOp, scals, AV.scal, xI_block, xI_loopH, xI_condM, xI_exitM, xI_skip, xI_blk, exitA, List.getElem?_cons_zero, List.getElem?_cons_succ, List.getElem?_toArray, List.getElem?_nil, ileb_t, ileb_f, ieqb_t, ieqb_f, inB_t, wrapA_id, lp_read, ieqb_self, Nat.blt_eq, cond_true, cond_false, ty2, ty4, ty22, eK17_0_0, eK17_1_2, eK17_2_4, eK17_2_3, eK17_2_2, eK17_3_6, eK17_4_8, eK17_5_10, eK17_5_9, eK17_5_8, eK17_6_12, eK17_6_9, eK17_6_8, eK17_7_14]
  | succ m ih =>
    intro i σ hi r9 r10 ho
    rw [smpC] at ho
    have hSA := o37 n k i
    cases hs : setR n k i with
    | none => rw [hs] at ho; cases ho
    | some s =>
      rw [hs] at ho hSA
      simp only [Bool.and_eq_true] at ho
      obtain ⟨⟨h1, h2, h3, h4⟩, h5⟩ := ho
      rw [ieqb_dec, decide_eq_true_eq] at h1 h2 h4
      have g1 := row_rd (i := i) r9 (by omega)
      have g2 := row_rd (i := i) r10 (by omega)
      have w1 : wrapA .i64 (at0 a i * (many : Int)) = (all : Int) := by rw [h1]; exact wrapA_id (by omega) (by omega)
      have w2 : wrapA .i64 (at0 bb i * (many : Int)) = (turns : Int) := by rw [h2]; exact wrapA_id (by omega) (by omega)
      obtain ⟨b1, σ1, c1, r1, o1, e1⟩ := FnO.row hSA (σ := σ) (args := [.int .i64 n, .int .i64 k, .int .i64 i]) rfl
      have hsl : s.length ≤ 100000 := by
        unfold setR at hs
        split at hs
        · cases hs
          have := setAt_length (n : Int).toNat (k : Int).toNat i 0 []
          simp at this
          rw [Int.toNat_natCast, Int.toNat_natCast]; omega
        · cases hs
      have c2 := v39 n s (by omega) σ1 [.int .i64 n, .sl b1 0 s.length s.length] (mapO_cons rfl (mapO_cons (r1.frz rfl (Nat.le_refl _)) rfl))
      rw [rankR_ok h3, h4] at c2
      obtain ⟨σ', z⟩ := ih (i + 1) σ1 (by omega) (r9.old o1) (r10.old o1) h5
      refine ⟨σ', ?_⟩
      rw [← z]
      have hw : wrapA .i64 ((i : Int) + 1) = ((i + 1 : Nat) : Int) := by rw [wrapA_id (by omega) (by omega)]; omega
      generalize i + 1 = i1 at *
      generalize at0 a i = u at *
      generalize at0 bb i = v at *
      generalize s.length = sl at *
      clear ih h5 z hSA hs
      rw [fi17, xl17_7]
      simp only [B17_7, b17, Try.f17, Option.getD, fstC, sndC, bodyC, thnC, elsC]
      simp (maxSteps := 1000000) (disch := omega) [xI_seq, xI_region, xI_ret, regA, regOps, runOps, opStep, wantedA, opA, evo, evos, calleeA, lk, nif_eq, putE, paramsE, valS, val2, keepE, restrict, finA, resA, binA, binInt, ofConst, ofConst1, loadA, TK.isAgg, asVar, unA, builtinA, lenOpA, lenA, indexAddrA, evPairs, storeA, AV.cellsOf, pairsOf, xI_nil, binBool, gcE, evOpt, runTr, pairsOk, pairOk, sameVal, AV.eqv, lastOf, lstAt, eqvs, boundA, indexA, regF, twoOf, prsOf, memI, runTrF, selF, runTr2, freshOp, scals, AV.scal, xI_block, xI_loopH, xI_condM, xI_exitM, xI_skip, xI_blk, exitA, List.getElem?_cons_zero, List.getElem?_cons_succ, List.getElem?_toArray, List.getElem?_nil, ileb_t, ileb_f, ieqb_t, ieqb_f, inB_t, wrapA_id, lp_read, ieqb_self, Nat.blt_eq, cond_true, cond_false, ty2, ty4, ty22, eK17_0_0, eK17_1_2, eK17_2_4, eK17_2_3, eK17_2_2, eK17_3_6, eK17_4_8, eK17_5_10, eK17_5_9, eK17_5_8, eK17_6_12, eK17_6_9, eK17_6_8, eK17_7_14, g1, g2, w1, w2, c1, c2, hw]
noncomputable def P17_0 : Code := fstC b17
noncomputable def P17_1 : Code := fstC (sndC b17)
noncomputable def P17_3 : Code := fstC (sndC (sndC b17))
noncomputable def P17_4 : Code := fstC (sndC (sndC (sndC b17)))
noncomputable def P17_5 : Code := fstC (sndC (sndC (sndC (sndC b17))))
noncomputable def T17 : Code := sndC (sndC (sndC (sndC (sndC b17))))
theorem P17_eq : Try.f17.body = some (.seq P17_0 (.seq P17_1 (.seq P17_3 (.seq P17_4 (.seq P17_5 T17))))) := rfl
set_option maxHeartbeats 8000000 in
theorem w17 (xs ys : List Nat) (hx : ∀ x ∈ xs, x < 256) (hy : ∀ x ∈ ys, x < 256) : FnV TT 17 [.lst xs.length (byts xs), .lst ys.length (byts ys)] (.bool true) := by
  have hL : ∀ σ, callI TT 55 [.lst xs.length (byts xs), .lst ys.length (byts ys)] σ = some (.bool (decide (1048576 < xs.length) || decide (1048576 < ys.length)), σ) := fun σ => v55 _ _ _ _ σ _ rfl
  refine FnV.mk fn17 P17_eq md17 ?_ (fun _ => rfl) rfl
  cases hb : (decide (1048576 < xs.length) || decide (1048576 < ys.length)) with
  | true =>
    rw [hb] at hL
    refine ⟨⟨[], 0⟩, ?_⟩
    rw [fi17]
    rw [xI_seq]
    simp only [P17_0, b17, Try.f17, Option.getD, fstC, sndC, bodyC, thnC, elsC]
    simp (maxSteps := 1000000) (disch := omega) [xI_seq, xI_region, xI_ret, regA, regOps, runOps, opStep, wantedA, opA, evo, evos, calleeA, lk, nif_eq, putE, paramsE, valS, val2, keepE, restrict, finA, resA, binA, binInt, ofConst, ofConst1, loadA, TK.isAgg, asVar, unA, builtinA, lenOpA, lenA, indexAddrA, evPairs, storeA, AV.cellsOf, pairsOf, xI_nil, binBool, gcE, evOpt, runTr, pairsOk, pairOk, sameVal, AV.eqv, lastOf, lstAt, eqvs, boundA, indexA, regF, twoOf, prsOf, memI, runTrF, selF, runTr2, freshOp, scals, AV.scal, xI_block, xI_loopH, xI_condM, xI_exitM, xI_skip, xI_blk, exitA, List.getElem?_cons_zero, List.getElem?_cons_succ, List.getElem?_toArray, List.getElem?_nil, ileb_t, ileb_f, ieqb_t, ieqb_f, inB_t, wrapA_id, lp_read, ieqb_self, Nat.blt_eq, cond_true, cond_false, ty2, ty4, ty22, eK17_0_0, eK17_1_2, eK17_2_4, eK17_2_3, eK17_2_2, eK17_3_6, eK17_4_8, eK17_5_10, eK17_5_9, eK17_5_8, eK17_6_12, eK17_6_9, eK17_6_8, eK17_7_14]
    simp only [P17_1, b17, Try.f17, Option.getD, fstC, sndC, bodyC, thnC, elsC]
    simp (maxSteps := 1000000) (disch := omega) [xI_seq, xI_region, xI_ret, regA, regOps, runOps, opStep, wantedA, opA, evo, evos, calleeA, lk, nif_eq, putE, paramsE, valS, val2, keepE, restrict, finA, resA, binA, binInt, ofConst, ofConst1, loadA, TK.isAgg, asVar, unA, builtinA, lenOpA, lenA, indexAddrA, evPairs, storeA, AV.cellsOf, pairsOf, xI_nil, binBool, gcE, evOpt, runTr, pairsOk, pairOk, sameVal, AV.eqv, lastOf, lstAt, eqvs, boundA, indexA, regF, twoOf, prsOf, memI, runTrF, selF, runTr2, freshOp, scals, AV.scal, xI_block, xI_loopH, xI_condM, xI_exitM, xI_skip, xI_blk, exitA, List.getElem?_cons_zero, List.getElem?_cons_succ, List.getElem?_toArray, List.getElem?_nil, ileb_t, ileb_f, ieqb_t, ieqb_f, inB_t, wrapA_id, lp_read, ieqb_self, Nat.blt_eq, cond_true, cond_false, ty2, ty4, ty22, eK17_0_0, eK17_1_2, eK17_2_4, eK17_2_3, eK17_2_2, eK17_3_6, eK17_4_8, eK17_5_10, eK17_5_9, eK17_5_8, eK17_6_12, eK17_6_9, eK17_6_8, eK17_7_14, hL]
  | false =>
    rw [hb] at hL
    clear hb
    obtain ⟨n0, hn0, vn⟩ := v56 xs hx 0 5 (by omega) (by omega)
    have e0 := fun σ => vn σ [.lst xs.length (byts xs), .int .i64 0, .int .i64 5] rfl
    obtain ⟨m0, hm0, vm⟩ := v56 ys hy 0 3 (by omega) (by omega)
    have e1 := fun σ => vm σ [.lst ys.length (byts ys), .int .i64 0, .int .i64 3] rfl
    obtain ⟨n, hn⟩ : ∃ n, n = n0 + 1 := ⟨_, rfl⟩
    obtain ⟨k0, hk0⟩ : ∃ m, m = m0 + 1 := ⟨_, rfl⟩
    have hw0 : wrapA .i64 (1 + (n0 : Int)) = (n : Int) := by rw [wrapA_id (by omega) (by omega)]; omega
    have hw1 : wrapA .i64 (1 + (m0 : Int)) = (k0 : Int) := by rw [wrapA_id (by omega) (by omega)]; omega
    have h1 : 1 ≤ n := by omega
    have h5 : n ≤ 5 := by omega
    have q1 : 1 ≤ k0 := by omega
    have q3 : k0 ≤ 3 := by omega
    clear hn hk0 hn0 hm0 vn vm hx hy
    -- from the numbers on
    have main : ∀ k, 1 ≤ k → k ≤ 3 → k ≤ n → ∀ xe : Env, ∃ σ1, exI TT (FI.of Try.f17 (TT.an 17)) [.code T17] ((5, .int .i64 n) :: (6, .int .i64 k) :: xe) ⟨[], 0⟩ = some (.bool true, σ1) := by
      intro k k1 k3 hk xe
      have hsmp := smp_all h1 h5 k1 k3 hk
      simp only [smp, Bool.and_eq_true] at hsmp
      obtain ⟨u1, u2, u3, u4⟩ := hsmp
      have u1 := Nat.le_of_ble_eq_true u1
      have u2 := Nat.le_of_ble_eq_true u2
      have u3 := Nat.le_of_ble_eq_true u3
      have c2 := fun σ => c57 n k (by omega) hk σ
      generalize ch n k = many at *
      cases hA : smpA n k many (prd (n - k) k 1) 0 (List.replicate many 0) with
      | none => rw [hA] at u4; cases u4
      | some a =>
        cases hB : smpB n k many (prd k (n - k) 1) 0 (List.replicate many 0) with
        | none => rw [hA, hB] at u4; cases u4
        | some bb =>
          rw [hA, hB] at u4
          simp only [] at u4
          have p6 : ∀ j, j ≤ 5 → 1 * 6 ^ j ≤ 100000 := fun j hj => by
            have : 6 ^ j ≤ 6 ^ 5 := Nat.pow_le_pow_right (by decide) hj
            omega
          have kA := mk22 (⟨[], 0⟩ : St) many (by omega)
          have kB := mk22 ((⟨[], 0⟩ : St).push ⟨ints (List.replicate many 0), 1, false⟩) many (by omega)
          obtain ⟨σ2, hσ2⟩ : ∃ σ2, ((⟨[], 0⟩ : St).push ⟨ints (List.replicate many 0), 1, false⟩).push ⟨ints (List.replicate many 0), 1, false⟩ = σ2 := ⟨_, rfl⟩
          have r0 : Row σ2 0 (List.replicate many 0) := by rw [← hσ2]; exact Row.push.pushed
          have r1 : Row σ2 1 (List.replicate many 0) := by rw [← hσ2]; exact Row.push
          have hz : ∀ j, 0 ≤ at0 (List.replicate many 0) j ∧ at0 (List.replicate many 0) j ≤ ((0 : Nat) : Int) := fun j => by rw [at0_rep]; exact ⟨Int.le_refl _, Int.le_refl _⟩
          have d0 := a17 n k many 0 1 h5 σ2 k (n - k) 1 (by omega) (p6 k (by omega))
          obtain ⟨σ3, d1, r9, r10, l9, b9⟩ := s17 n k many 0 1 (prd (n - k) k 1) h1 h5 hk u2 (by decide) (prd (n - k) k 1) 0 _ a _ σ2 (by omega) (by simp) hz r0 r1 hA
          have d3 := b17_ n k many 0 1 (prd (n - k) k 1) h5 σ3 (n - k) k 1 (by omega) (p6 (n - k) (by omega))
          obtain ⟨σ4, d4, r9b, r10b, l10, b10⟩ := t17 n k many 0 1 (prd (n - k) k 1) (prd k (n - k) 1) h1 h5 hk u3 (by decide) a (prd k (n - k) 1) 0 _ bb σ3 (by omega) (by simp) hz r9 r10 hB
          obtain ⟨σ5, d5⟩ := u17 n k many 0 1 (prd (n - k) k 1) (prd k (n - k) 1) h5 hk u1 u2 u3 a bb l9 l10 b9 b10 many 0 σ4 (by omega) r9b r10b u4
          refine ⟨σ5, ?_⟩
          have hw5 : wrapA .i64 ((n : Int) - (k : Int)) = ((n - k : Nat) : Int) := by rw [wrapA_id (by omega) (by omega)]; omega
          simp only [show (⟨[], 0⟩ : St).n = 0 from rfl, n_push, Nat.zero_add] at kA kB
          rw [hσ2] at kB
          generalize (⟨[], 0⟩ : St).push ⟨ints (List.replicate many 0), 1, false⟩ = σ1 at *
          generalize prd (n - k) k 1 = all at *
          generalize prd k (n - k) 1 = turns at *
          generalize n - k = nk at *
          simp only [show ((0 : Nat) : Int) = 0 from rfl, show ((1 : Nat) : Int) = 1 from rfl] at d0 d1 d3 d4 d5
          clear hA hB u4 r0 r1 hz b9 b10 r9 r10 r9b r10b
          rw [fi17] at d0 d1 d3 d4 d5 ⊢
          simp only [T17, b17, Try.f17, Option.getD, fstC, sndC, bodyC, thnC, elsC]
          simp (maxSteps := 1000000) (disch := omega) [xI_seq, xI_region, xI_ret, regA, regOps, runOps, opStep, wantedA, opA, evo, evos, calleeA, lk, nif_eq, putE, paramsE, valS, val2, keepE, restrict, finA, resA, binA, binInt, ofConst, ofConst1, loadA, TK.isAgg, asVar, unA, builtinA, lenOpA, lenA, indexAddrA, evPairs, storeA, AV.cellsOf, pairsOf, xI_nil, binBool, gcE, evOpt, runTr, pairsOk, pairOk, sameVal, AV.eqv, lastOf, lstAt, eqvs, boundA, indexA, regF, twoOf, prsOf, memI, runTrF, selF, runTr2, freshOp, scals, AV.scal, xI_block, xI_loopH, xI_condM, xI_exitM, xI_skip, xI_blk, exitA, List.getElem?_cons_zero, List.getElem?_cons_succ, List.getElem?_toArray, List.getElem?_nil, ileb_t, ileb_f, ieqb_t, ieqb_f, inB_t, wrapA_id, lp_read, ieqb_self, Nat.blt_eq, cond_true, cond_false, ty2, ty4, ty22, eK17_0_0, eK17_1_2, eK17_2_4, eK17_2_3, eK17_2_2, eK17_3_6, eK17_4_8, eK17_5_10, eK17_5_9, eK17_5_8, eK17_6_12, eK17_6_9, eK17_6_8, eK17_7_14, c2, kA, kB, hw5]
          refine d0.trans ?_
          simp only [R17_0_0, b17, Try.f17, Option.getD, fstC, sndC, bodyC, thnC, elsC]
          simp (maxSteps := 1000000) (disch := omega) [xI_seq, xI_region, xI_ret, regA, regOps, runOps, opStep, wantedA, opA, evo, evos, calleeA, lk, nif_eq, putE, paramsE, valS, val2, keepE, restrict, finA, resA, binA, binInt, ofConst, ofConst1, loadA, TK.isAgg, asVar, unA, builtinA, lenOpA, lenA, indexAddrA, evPairs, storeA, AV.cellsOf, pairsOf, xI_nil, binBool, gcE, evOpt, runTr, pairsOk, pairOk, sameVal, AV.eqv, lastOf, lstAt, eqvs, boundA, indexA, regF, twoOf, prsOf, memI, runTrF, selF, runTr2, freshOp, scals, AV.scal, xI_block, xI_loopH, xI_condM, xI_exitM, xI_skip, xI_blk, exitA, List.getElem?_cons_zero, List.getElem?_cons_succ, List.getElem?_toArray, List.getElem?_nil, ileb_t, ileb_f, ieqb_t, ieqb_f, inB_t, wrapA_id, lp_read, ieqb_self, Nat.blt_eq, cond_true, cond_false, ty2, ty4, ty22, eK17_0_0, eK17_1_2, eK17_2_4, eK17_2_3, eK17_2_2, eK17_3_6, eK17_4_8, eK17_5_10, eK17_5_9, eK17_5_8, eK17_6_12, eK17_6_9, eK17_6_8, eK17_7_14]
          refine d1.trans ?_
          simp only [R17_1_2, b17, Try.f17, Option.getD, fstC, sndC, bodyC, thnC, elsC]
          simp (maxSteps := 1000000) (disch := omega) [xI_seq, xI_region, xI_ret, regA, regOps, runOps, opStep, wantedA, opA, evo, evos, calleeA, lk, nif_eq, putE, paramsE, valS, val2, keepE, restrict, finA, resA, binA, binInt, ofConst, ofConst1, loadA, TK.isAgg, asVar, unA, builtinA, lenOpA, lenA, indexAddrA, evPairs, storeA, AV.cellsOf, pairsOf, xI_nil, binBool, gcE, evOpt, runTr, pairsOk, pairOk, sameVal, AV.eqv, lastOf, lstAt, eqvs, boundA, indexA, regF, twoOf, prsOf, memI, runTrF, selF, runTr2, freshOp, scals, AV.scal, xI_block, xI_loopH, xI_condM, xI_exitM, xI_skip, xI_blk, exitA, List.getElem?_cons_zero, List.getElem?_cons_succ, List.getElem?_toArray, List.getElem?_nil, ileb_t, ileb_f, ieqb_t, ieqb_f, inB_t, wrapA_id, lp_read, ieqb_self, Nat.blt_eq, cond_true, cond_false, ty2, ty4, ty22, eK17_0_0, eK17_1_2, eK17_2_4, eK17_2_3, eK17_2_2, eK17_3_6, eK17_4_8, eK17_5_10, eK17_5_9, eK17_5_8, eK17_6_12, eK17_6_9, eK17_6_8, eK17_7_14]
          refine d3.trans ?_
          simp only [R17_3_6, b17, Try.f17, Option.getD, fstC, sndC, bodyC, thnC, elsC]
          simp (maxSteps := 1000000) (disch := omega) [xI_seq, xI_region, xI_ret, regA, regOps, runOps, opStep, wantedA, opA, evo, evos, calleeA, lk, nif_eq, putE, paramsE, valS, val2, keepE, restrict, finA, resA, binA, binInt, ofConst, ofConst1, loadA, TK.isAgg, asVar, unA, builtinA, lenOpA, lenA, indexAddrA, evPairs, storeA, AV.cellsOf, pairsOf, xI_nil, binBool, gcE, evOpt, runTr, pairsOk, pairOk, sameVal, AV.eqv, lastOf, lstAt, eqvs, boundA, indexA, regF, twoOf, prsOf, memI, runTrF, selF, runTr2, freshOp, scals, AV.scal, xI_block, xI_loopH, xI_condM, xI_exitM, xI_skip, xI_blk, exitA, List.getElem?_cons_zero, List.getElem?_cons_succ, List.getElem?_toArray, List.getElem?_nil, ileb_t, ileb_f, ieqb_t, ieqb_f, inB_t, wrapA_id, lp_read, ieqb_self, Nat.blt_eq, cond_true, cond_false, ty2, ty4, ty22, eK17_0_0, eK17_1_2, eK17_2_4, eK17_2_3, eK17_2_2, eK17_3_6, eK17_4_8, eK17_5_10, eK17_5_9, eK17_5_8, eK17_6_12, eK17_6_9, eK17_6_8, eK17_7_14]
          refine d4.trans ?_
          simp only [R17_4_8, b17, Try.f17, Option.getD, fstC, sndC, bodyC, thnC, elsC]
          simp (maxSteps := 1000000) (disch := omega) [xI_seq, xI_region, xI_ret, regA, regOps, runOps, opStep, wantedA, opA, evo, evos, calleeA, lk, nif_eq, putE, paramsE, valS, val2, keepE, restrict, finA, resA, binA, binInt, ofConst, ofConst1, loadA, TK.isAgg, asVar, unA, builtinA, lenOpA, lenA, indexAddrA, evPairs, storeA, AV.cellsOf, pairsOf, xI_nil, binBool, gcE, evOpt, runTr, pairsOk, pairOk, sameVal, AV.eqv, lastOf, lstAt, eqvs, boundA, indexA, regF, twoOf, prsOf, memI, runTrF, selF, runTr2, freshOp, scals, AV.scal, xI_block, xI_loopH, xI_condM, xI_exitM, xI_skip, xI_blk, exitA, List.getElem?_cons_zero, List.getElem?_cons_succ, List.getElem?_toArray, List.getElem?_nil, ileb_t, ileb_f, ieqb_t, ieqb_f, inB_t, wrapA_id, lp_read, ieqb_self, Nat.blt_eq, cond_true, cond_false, ty2, ty4, ty22, eK17_0_0, eK17_1_2, eK17_2_4, eK17_2_3, eK17_2_2, eK17_3_6, eK17_4_8, eK17_5_10, eK17_5_9, eK17_5_8, eK17_6_12, eK17_6_9, eK17_6_8, eK17_7_14]
          exact d5
    by_cases hkn : k0 ≤ n
    · obtain ⟨σ1, h⟩ := main k0 q1 q3 hkn [(49, .bool false)]
      refine ⟨σ1, ?_⟩
      rw [← h, fi17]
      rw [xI_seq]
      simp only [P17_0, b17, Try.f17, Option.getD, fstC, sndC, bodyC, thnC, elsC]
      simp (maxSteps := 1000000) (disch := omega) [xI_seq, xI_region, xI_ret, regA, regOps, runOps, opStep, wantedA, opA, evo, evos, calleeA, lk, nif_eq, putE, paramsE, valS, val2, keepE, restrict, finA, resA, binA, binInt, ofConst, ofConst1, loadA, TK.isAgg, asVar, unA, builtinA, lenOpA, lenA, indexAddrA, evPairs, storeA, AV.cellsOf, pairsOf, xI_nil, binBool, gcE, evOpt, runTr, pairsOk, pairOk, sameVal, AV.eqv, lastOf, lstAt, eqvs, boundA, indexA, regF, twoOf, prsOf, memI, runTrF, selF, runTr2, freshOp, scals, AV.scal, xI_block, xI_loopH, xI_condM, xI_exitM, xI_skip, xI_blk, exitA, List.getElem?_cons_zero, List.getElem?_cons_succ, List.getElem?_toArray, List.getElem?_nil, ileb_t, ileb_f, ieqb_t, ieqb_f, inB_t, wrapA_id, lp_read, ieqb_self, Nat.blt_eq, cond_true, cond_false, ty2, ty4, ty22, eK17_0_0, eK17_1_2, eK17_2_4, eK17_2_3, eK17_2_2, eK17_3_6, eK17_4_8, eK17_5_10, eK17_5_9, eK17_5_8, eK17_6_12, eK17_6_9, eK17_6_8, eK17_7_14]
      simp only [P17_1, b17, Try.f17, Option.getD, fstC, sndC, bodyC, thnC, elsC]
      simp (maxSteps := 1000000) (disch := omega) [xI_seq, xI_region, xI_ret, regA, regOps, runOps, opStep, wantedA, opA, evo, evos, calleeA, lk, nif_eq, putE, paramsE, valS, val2, keepE, restrict, finA, resA, binA, binInt, ofConst, ofConst1, loadA, TK.isAgg, asVar, unA, builtinA, lenOpA, lenA, indexAddrA, evPairs, storeA, AV.cellsOf, pairsOf, xI_nil, binBool, gcE, evOpt, runTr, pairsOk, pairOk, sameVal, AV.eqv, lastOf, lstAt, eqvs, boundA, indexA, regF, twoOf, prsOf, memI, runTrF, selF, runTr2, freshOp, scals, AV.scal, xI_block, xI_loopH, xI_condM, xI_exitM, xI_skip, xI_blk, exitA, List.getElem?_cons_zero, List.getElem?_cons_succ, List.getElem?_toArray, List.getElem?_nil, ileb_t, ileb_f, ieqb_t, ieqb_f, inB_t, wrapA_id, lp_read, ieqb_self, Nat.blt_eq, cond_true, cond_false, ty2, ty4, ty22, eK17_0_0, eK17_1_2, eK17_2_4, eK17_2_3, eK17_2_2, eK17_3_6, eK17_4_8, eK17_5_10, eK17_5_9, eK17_5_8, eK17_6_12, eK17_6_9, eK17_6_8, eK17_7_14, hL]
      simp only [P17_3, b17, Try.f17, Option.getD, fstC, sndC, bodyC, thnC, elsC]
      simp (maxSteps := 1000000) (disch := omega) [xI_seq, xI_region, xI_ret, regA, regOps, runOps, opStep, wantedA, opA, evo, evos, calleeA, lk, nif_eq, putE, paramsE, valS, val2, keepE, restrict, finA, resA, binA, binInt, ofConst, ofConst1, loadA, TK.isAgg, asVar, unA, builtinA, lenOpA, lenA, indexAddrA, evPairs, storeA, AV.cellsOf, pairsOf, xI_nil, binBool, gcE, evOpt, runTr, pairsOk, pairOk, sameVal, AV.eqv, lastOf, lstAt, eqvs, boundA, indexA, regF, twoOf, prsOf, memI, runTrF, selF, runTr2, freshOp, scals, AV.scal, xI_block, xI_loopH, xI_condM, xI_exitM, xI_skip, xI_blk, exitA, List.getElem?_cons_zero, List.getElem?_cons_succ, List.getElem?_toArray, List.getElem?_nil, ileb_t, ileb_f, ieqb_t, ieqb_f, inB_t, wrapA_id, lp_read, ieqb_self, Nat.blt_eq, cond_true, cond_false, ty2, ty4, ty22, eK17_0_0, eK17_1_2, eK17_2_4, eK17_2_3, eK17_2_2, eK17_3_6, eK17_4_8, eK17_5_10, eK17_5_9, eK17_5_8, eK17_6_12, eK17_6_9, eK17_6_8, eK17_7_14, e0, hw0]
      simp only [P17_4, b17, Try.f17, Option.getD, fstC, sndC, bodyC, thnC, elsC]
      simp (maxSteps := 1000000) (disch := omega) [xI_seq, xI_region, xI_ret, regA, regOps, runOps, opStep, wantedA, opA, evo, evos, calleeA, lk, nif_eq, putE, paramsE, valS, val2, keepE, restrict, finA, resA, binA, binInt, ofConst, ofConst1, loadA, TK.isAgg, asVar, unA, builtinA, lenOpA, lenA, indexAddrA, evPairs, storeA, AV.cellsOf, pairsOf, xI_nil, binBool, gcE, evOpt, runTr, pairsOk, pairOk, sameVal, AV.eqv, lastOf, lstAt, eqvs, boundA, indexA, regF, twoOf, prsOf, memI, runTrF, selF, runTr2, freshOp, scals, AV.scal, xI_block, xI_loopH, xI_condM, xI_exitM, xI_skip, xI_blk, exitA, List.getElem?_cons_zero, List.getElem?_cons_succ, List.getElem?_toArray, List.getElem?_nil, ileb_t, ileb_f, ieqb_t, ieqb_f, inB_t, wrapA_id, lp_read, ieqb_self, Nat.blt_eq, cond_true, cond_false, ty2, ty4, ty22, eK17_0_0, eK17_1_2, eK17_2_4, eK17_2_3, eK17_2_2, eK17_3_6, eK17_4_8, eK17_5_10, eK17_5_9, eK17_5_8, eK17_6_12, eK17_6_9, eK17_6_8, eK17_7_14, e1, hw1]
      simp only [P17_5, b17, Try.f17, Option.getD, fstC, sndC, bodyC, thnC, elsC]
      simp (maxSteps := 1000000) (disch := omega) [xI_seq, xI_region, xI_ret, regA, regOps, runOps, opStep, wantedA, opA, evo, evos, calleeA, lk, nif_eq, putE, paramsE, valS, val2, keepE, restrict, finA, resA, binA, binInt, ofConst, ofConst1, loadA, TK.isAgg, asVar, unA, builtinA, lenOpA, lenA, indexAddrA, evPairs, storeA, AV.cellsOf, pairsOf, xI_nil, binBool, gcE, evOpt, runTr, pairsOk, pairOk, sameVal, AV.eqv, lastOf, lstAt, eqvs, boundA, indexA, regF, twoOf, prsOf, memI, runTrF, selF, runTr2, freshOp, scals, AV.scal, xI_block, xI_loopH, xI_condM, xI_exitM, xI_skip, xI_blk, exitA, List.getElem?_cons_zero, List.getElem?_cons_succ, List.getElem?_toArray, List.getElem?_nil, ileb_t, ileb_f, ieqb_t, ieqb_f, inB_t, wrapA_id, lp_read, ieqb_self, Nat.blt_eq, cond_true, cond_false, ty2, ty4, ty22, eK17_0_0, eK17_1_2, eK17_2_4, eK17_2_3, eK17_2_2, eK17_3_6, eK17_4_8, eK17_5_10, eK17_5_9, eK17_5_8, eK17_6_12, eK17_6_9, eK17_6_8, eK17_7_14]
    · obtain ⟨σ1, h⟩ := main n h1 (by omega) (Nat.le_refl _) []
      refine ⟨σ1, ?_⟩
      rw [← h, fi17]
      rw [xI_seq]
      simp only [P17_0, b17, Try.f17, Option.getD, fstC, sndC, bodyC, thnC, elsC]
      simp (maxSteps := 1000000) (disch := omega) [xI_seq, xI_region, xI_ret, regA, regOps, runOps, opStep, wantedA, opA, evo, evos, calleeA, lk, nif_eq, putE, paramsE, valS, val2, keepE, restrict, finA, resA, binA, binInt, ofConst, ofConst1, loadA, TK.isAgg, asVar, unA, builtinA, lenOpA, lenA, indexAddrA, evPairs, storeA, AV.cellsOf, pairsOf, xI_nil, binBool, gcE, evOpt, runTr, pairsOk, pairOk, sameVal, AV.eqv, lastOf, lstAt, eqvs, boundA, indexA, regF, twoOf, prsOf, memI, runTrF, selF, runTr2, freshOp, scals, AV.scal, xI_block, xI_loopH, xI_condM, xI_exitM, xI_skip, xI_blk, exitA, List.getElem?_cons_zero, List.getElem?_cons_succ, List.getElem?_toArray, List.getElem?_nil, ileb_t, ileb_f, ieqb_t, ieqb_f, inB_t, wrapA_id, lp_read, ieqb_self, Nat.blt_eq, cond_true, cond_false, ty2, ty4, ty22, eK17_0_0, eK17_1_2, eK17_2_4, eK17_2_3, eK17_2_2, eK17_3_6, eK17_4_8, eK17_5_10, eK17_5_9, eK17_5_8, eK17_6_12, eK17_6_9, eK17_6_8, eK17_7_14]
      simp only [P17_1, b17, Try.f17, Option.getD, fstC, sndC, bodyC, thnC, elsC]
      simp (maxSteps := 1000000) (disch := omega) [xI_seq, xI_region, xI_ret, regA, regOps, runOps, opStep, wantedA, opA, evo, evos, calleeA, lk, nif_eq, putE, paramsE, valS, val2, keepE, restrict, finA, resA, binA, binInt, ofConst, ofConst1, loadA, TK.isAgg, asVar, unA, builtinA, lenOpA, lenA, indexAddrA, evPairs, storeA, AV.cellsOf, pairsOf, xI_nil, binBool, gcE, evOpt, runTr, pairsOk, pairOk, sameVal, AV.eqv, lastOf, lstAt, eqvs, boundA, indexA, regF, twoOf, prsOf, memI, runTrF, selF, runTr2, freshOp, scals, AV.scal, xI_block, xI_loopH, xI_condM, xI_exitM, xI_skip, xI_blk, exitA, List.getElem?_cons_zero, List.getElem?_cons_succ, List.getElem?_toArray, List.getElem?_nil, ileb_t, ileb_f, ieqb_t, ieqb_f, inB_t, wrapA_id, lp_read, ieqb_self, Nat.blt_eq, cond_true, cond_false, ty2, ty4, ty22, eK17_0_0, eK17_1_2, eK17_2_4, eK17_2_3, eK17_2_2, eK17_3_6, eK17_4_8, eK17_5_10, eK17_5_9, eK17_5_8, eK17_6_12, eK17_6_9, eK17_6_8, eK17_7_14, hL]
      simp only [P17_3, b17, Try.f17, Option.getD, fstC, sndC, bodyC, thnC, elsC]
      simp (maxSteps := 1000000) (disch := omega) [xI_seq, xI_region, xI_ret, regA, regOps, runOps, opStep, wantedA, opA, evo, evos, calleeA, lk, nif_eq, putE, paramsE, valS, val2, keepE, restrict, finA, resA, binA, binInt, ofConst, ofConst1, loadA, TK.isAgg, asVar, unA, builtinA, lenOpA, lenA, indexAddrA, evPairs, storeA, AV.cellsOf, pairsOf, xI_nil, binBool, gcE, evOpt, runTr, pairsOk, pairOk, sameVal, AV.eqv, lastOf, lstAt, eqvs, boundA, indexA, regF, twoOf, prsOf, memI, runTrF, selF, runTr2, freshOp, scals, AV.scal, xI_block, xI_loopH, xI_condM, xI_exitM, xI_skip, xI_blk, exitA, List.getElem?_cons_zero, List.getElem?_cons_succ, List.getElem?_toArray, List.getElem?_nil, ileb_t, ileb_f, ieqb_t, ieqb_f, inB_t, wrapA_id, lp_read, ieqb_self, Nat.blt_eq, cond_true, cond_false, ty2, ty4, ty22, eK17_0_0, eK17_1_2, eK17_2_4, eK17_2_3, eK17_2_2, eK17_3_6, eK17_4_8, eK17_5_10, eK17_5_9, eK17_5_8, eK17_6_12, eK17_6_9, eK17_6_8, eK17_7_14, e0, hw0]
      simp only [P17_4, b17, Try.f17, Option.getD, fstC, sndC, bodyC, thnC, elsC]
      simp (maxSteps := 1000000) (disch := omega) [xI_seq, xI_region, xI_ret, regA, regOps, runOps, opStep, wantedA, opA, evo, evos, calleeA, lk, nif_eq, putE, paramsE, valS, val2, keepE, restrict, finA, resA, binA, binInt, ofConst, ofConst1, loadA, TK.isAgg, asVar, unA, builtinA, lenOpA, lenA, indexAddrA, evPairs, storeA, AV.cellsOf, pairsOf, xI_nil, binBool, gcE, evOpt, runTr, pairsOk, pairOk, sameVal, AV.eqv, lastOf, lstAt, eqvs, boundA, indexA, regF, twoOf, prsOf, memI, runTrF, selF, runTr2, freshOp, scals, AV.scal, xI_block, xI_loopH, xI_condM, xI_exitM, xI_skip, xI_blk, exitA, List.getElem?_cons_zero, List.getElem?_cons_succ, List.getElem?_toArray, List.getElem?_nil, ileb_t, ileb_f, ieqb_t, ieqb_f, inB_t, wrapA_id, lp_read, ieqb_self, Nat.blt_eq, cond_true, cond_false, ty2, ty4, ty22, eK17_0_0, eK17_1_2, eK17_2_4, eK17_2_3, eK17_2_2, eK17_3_6, eK17_4_8, eK17_5_10, eK17_5_9, eK17_5_8, eK17_6_12, eK17_6_9, eK17_6_8, eK17_7_14, e1, hw1]
      simp only [P17_5, b17, Try.f17, Option.getD, fstC, sndC, bodyC, thnC, elsC]
      simp (maxSteps := 1000000) (disch := omega) [xI_seq, xI_region, xI_ret, regA, regOps, runOps, opStep, wantedA, opA, evo, evos, calleeA, lk, nif_eq, putE, paramsE, valS, val2, keepE, restrict, finA, resA, binA, binInt, ofConst, ofConst1, loadA, TK.isAgg, asVar, unA, builtinA, lenOpA, lenA, indexAddrA, evPairs, storeA, AV.cellsOf, pairsOf, xI_nil, binBool, gcE, evOpt, runTr, pairsOk, pairOk, sameVal, AV.eqv, lastOf, lstAt, eqvs, boundA, indexA, regF, twoOf, prsOf, memI, runTrF, selF, runTr2, freshOp, scals, AV.scal, xI_block, xI_loopH, xI_condM, xI_exitM, xI_skip, xI_blk, exitA, List.getElem?_cons_zero, List.getElem?_cons_succ, List.getElem?_toArray, List.getElem?_nil, ileb_t, ileb_f, ieqb_t, ieqb_f, inB_t, wrapA_id, lp_read, ieqb_self, Nat.blt_eq, cond_true, cond_false, ty2, ty4, ty22, eK17_0_0, eK17_1_2, eK17_2_4, eK17_2_3, eK17_2_2, eK17_3_6, eK17_4_8, eK17_5_10, eK17_5_9, eK17_5_8, eK17_6_12, eK17_6_9, eK17_6_8, eK17_7_14]

end Go.Proofs.Ytaniaeefijgaiaa
