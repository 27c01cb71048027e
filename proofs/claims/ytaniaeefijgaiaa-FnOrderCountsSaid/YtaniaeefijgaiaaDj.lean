/- Contracts and law: cycles of orders. Nothing is claimed here; no condition. -/
import Derived.Test.YtaniaeefijgaiaaDi
namespace Go.Proofs.Ytaniaeefijgaiaa
open Go Go.Abs
set_option linter.unusedSimpArgs false
set_option linter.unusedVariables false
/-! ### Cycles: plain law -/
def atB (dn : List Bool) (k : Nat) : Bool := dn.getD k false
def bls (dn : List Bool) : List AV := dn.map .bool
def wlk (l : List Int) : Nat → Nat → List Bool → List Int → List Bool × List Int
  | 0, _, dn, cy => (dn, cy)
  | m + 1, k, dn, cy => if atB dn k = true then (dn, cy) else wlk l m (at0 l k).toNat (dn.set k true) (cy ++ [(k : Int)])
def cycG (l : List Int) (n : Nat) : Nat → Nat → List Bool → List (List Int) → List (List Int)
  | 0, _, _, out => out
  | m + 1, i, dn, out => if atB dn i = true then cycG l n m (i + 1) dn out else cycG l n m (i + 1) (wlk l (n + 1) i dn []).1 (out ++ [(wlk l (n + 1) i dn []).2])
def cyc (l : List Int) : List (List Int) := cycG l l.length l.length 0 (List.replicate l.length false) []
def cycR (l : List Int) : Option (List (List Int)) := if isO l = true then some (cyc l) else none
theorem atB_some {dn : List Bool} {k : Nat} (h : k < dn.length) : (bls dn)[k]? = some (.bool (atB dn k)) := by simp [bls, atB, List.getD_eq_getElem?_getD, h]
theorem bls_length (dn : List Bool) : (bls dn).length = dn.length := by simp [bls]
theorem bls_set (dn : List Bool) (k : Nat) : (bls dn).set k (.bool true) = bls (dn.set k true) := by simp [bls, List.map_set]
theorem cnt_set : ∀ (dn : List Bool) (k : Nat), k < dn.length → atB dn k = false → (dn.set k true).count false + 1 = dn.count false
  | [], k, h, _ => by simp at h
  | b :: r, 0, _, hb => by
    have : b = false := by simpa [atB] using hb
    subst this
    simp [List.count_cons]
  | b :: r, k + 1, h, hb => by
    have := cnt_set r k (by simpa using h) (by simpa [atB] using hb)
    simp only [List.set_cons_succ, List.count_cons]
    omega
theorem wlk_dn (l : List Int) : ∀ (m k : Nat) (dn : List Bool) (cy : List Int), (wlk l m k dn cy).1.length = dn.length
  | 0, _, _, _ => rfl
  | m + 1, k, dn, cy => by
    rw [wlk]
    split
    · rfl
    · rw [wlk_dn l m]; simp
theorem wlk_cnt (l : List Int) : ∀ (m k : Nat) (dn : List Bool) (cy : List Int), (wlk l m k dn cy).1.count false ≤ dn.count false
  | 0, _, _, _ => Nat.le_refl _
  | m + 1, k, dn, cy => by
    rw [wlk]
    split
    · exact Nat.le_refl _
    · rename_i h
      refine Nat.le_trans (wlk_cnt l m _ _ _) ?_
      rcases Nat.lt_or_ge k dn.length with hk | hk
      · have := cnt_set dn k hk (by simpa using h); omega
      · rw [List.set_eq_of_length_le hk]
        exact Nat.le_refl _
theorem wlk_cy (l : List Int) : ∀ (m k : Nat) (dn : List Bool) (cy : List Int), cy.length ≤ (wlk l m k dn cy).2.length ∧ (wlk l m k dn cy).2.length ≤ cy.length + m
  | 0, _, _, _ => by simp [wlk]
  | m + 1, k, dn, cy => by
    rw [wlk]
    split
    · exact ⟨Nat.le_refl _, Nat.le_add_right _ _⟩
    · have := wlk_cy l m (at0 l k).toNat (dn.set k true) (cy ++ [(k : Int)])
      simp at this; omega
theorem wlk_one (l : List Int) {m k : Nat} {dn : List Bool} (h : atB dn k = false) : 1 ≤ (wlk l (m + 1) k dn []).2.length := by
  rw [wlk, if_neg (by rw [h]; simp)]
  have := (wlk_cy l m (at0 l k).toNat (dn.set k true) ([] ++ [(k : Int)])).1
  simpa using this
theorem cycG_le (l : List Int) (n : Nat) : ∀ (m i : Nat) (dn : List Bool) (out : List (List Int)), (∀ c ∈ out, c.length ≤ n + 1) → out.length + m ≤ 1000 → (cycG l n m i dn out).length ≤ out.length + m ∧ ∀ c ∈ cycG l n m i dn out, c.length ≤ n + 1
  | 0, _, _, _, h, _ => ⟨Nat.le_refl _, h⟩
  | m + 1, i, dn, out, h, hm => by
    rw [cycG]
    split
    · have := cycG_le l n m (i + 1) dn out h (by omega); exact ⟨by omega, this.2⟩
    · have h2 := (wlk_cy l (n + 1) i dn []).2
      have := cycG_le l n m (i + 1) (wlk l (n + 1) i dn []).1 (out ++ [(wlk l (n + 1) i dn []).2]) (fun c hc => by
        rcases List.mem_append.1 hc with hc | hc
        · exact h c hc
        · simp at hc; subst hc; simpa using h2) (by simp; omega)
      simp at this; exact ⟨by omega, this.2⟩
theorem tot_le : ∀ (L : List (List Int)) (b : Nat), (∀ c ∈ L, c.length ≤ b) → totL L ≤ L.length * b
  | [], _, _ => by simp [totL]
  | l :: L, b, h => by
    have h1 := tot_le L b fun c hc => h c (by simp [hc])
    have h2 := h l (by simp)
    rw [totL, List.length_cons, Nat.add_mul, Nat.one_mul]; omega
theorem cyc_small {l : List Int} (h : isO l = true) : (cyc l).length ≤ 12 ∧ (∀ c ∈ cyc l, c.length ≤ 13) ∧ totL (cyc l) ≤ 156 := by
  have hl := isO_len h
  obtain ⟨h1, h2⟩ := cycG_le l l.length l.length 0 (List.replicate l.length false) [] (by simp) (by simp; omega)
  have h3 : ∀ c ∈ cyc l, c.length ≤ 13 := fun c hc => by have := h2 c hc; omega
  have h4 := tot_le (cyc l) 13 h3
  have h5 : (cyc l).length ≤ 12 := by have : (cyc l).length ≤ [].length + l.length := h1; simp at this; omega
  exact ⟨h5, h3, by omega⟩
theorem Row.toA {σ : St} {b : Nat} {l : List Int} (h : Row σ b l) : RowA σ b (ints l) := h
theorem bs40 (σ : St) (c q : Nat) : buildSliceA TT σ 40 1 [(0, .sl c 0 q q)] = some (.sl σ.n 0 1 1, σ.push ⟨[.sl c 0 q q], 1, false⟩) := by
  simp [buildSliceA, ty40, ty22, fillA, repeatCells, putCells, AV.cellsOf, allOne, AV.one]
theorem bn40 (σ : St) : buildSliceA TT σ 40 0 [] = some (.sl σ.n 0 0 0, σ.push ⟨slc [] [], 1, false⟩) := by
  simp [buildSliceA, ty40, ty22, fillA, repeatCells, slc]
theorem repeat_bls : ∀ n : Nat, repeatCells [.bool false] n = bls (List.replicate n false)
  | 0 => rfl
  | n + 1 => by rw [repeatCells, repeat_bls n]; rfl
theorem mk67 (σ : St) (n : Nat) (hn : n ≤ 1000000) : makeSliceA TT σ 67 (.int .i64 n) (.int .i64 n) = some (.sl σ.n 0 n n, σ.push ⟨bls (List.replicate n false), 1, false⟩) := by
  unfold makeSliceA
  simp only [ty67, ty4]
  rw [if_pos ⟨by omega, by omega, by omega, by omega⟩]
  simp [repeat_bls]

noncomputable def b51 : Code := Try.f51.body.getD .skip
noncomputable def B51_0 : Code := (bodyC (bodyC (sndC (fstC (sndC (sndC (sndC b51)))))))
noncomputable def K51_0 : List It := .lp B51_0 :: .blk 0 :: .code (sndC (sndC (sndC (sndC b51)))) :: []
theorem xl51_0 {fi : FI} {env : Env} {σ : St} : exI TT fi K51_0 env σ = exI TT fi (.code B51_0 :: K51_0) env σ := by unfold K51_0; exact xI_lp
noncomputable def R51_0_0 : List It := .code (sndC (sndC (sndC (sndC b51)))) :: []
theorem eK51_0_0 : exitA 0 K51_0 = some R51_0_0 := rfl
noncomputable def B51_1 : Code := (bodyC (bodyC (sndC (fstC (sndC (sndC (bodyC (fstC (sndC (sndC (bodyC (bodyC (sndC (fstC (sndC (sndC (sndC b51)))))))))))))))))
noncomputable def K51_1 : List It := .lp B51_1 :: .blk 2 :: .code (sndC (sndC (sndC (bodyC (fstC (sndC (sndC (bodyC (bodyC (sndC (fstC (sndC (sndC (sndC b51)))))))))))))) :: .blk 1 :: .code (sndC (sndC (sndC (bodyC (bodyC (sndC (fstC (sndC (sndC (sndC b51)))))))))) :: K51_0
theorem xl51_1 {fi : FI} {env : Env} {σ : St} : exI TT fi K51_1 env σ = exI TT fi (.code B51_1 :: K51_1) env σ := by unfold K51_1; exact xI_lp
noncomputable def R51_1_2 : List It := .code (sndC (sndC (sndC (bodyC (fstC (sndC (sndC (bodyC (bodyC (sndC (fstC (sndC (sndC (sndC b51)))))))))))))) :: .blk 1 :: .code (sndC (sndC (sndC (bodyC (bodyC (sndC (fstC (sndC (sndC (sndC b51)))))))))) :: K51_0
theorem eK51_1_2 : exitA 2 K51_1 = some R51_1_2 := rfl
noncomputable def R51_1_1 : List It := .code (sndC (sndC (sndC (bodyC (bodyC (sndC (fstC (sndC (sndC (sndC b51)))))))))) :: K51_0
theorem eK51_1_1 : exitA 1 K51_1 = some R51_1_1 := rfl
theorem eK51_1_0 : exitA 0 K51_1 = some R51_0_0 := rfl
set_option maxHeartbeats 2000000 in
theorem d51 (l : List Int) (len : Nat) (hlen : len = l.length) (hs : len ≤ 12) (hr : ∀ x ∈ l, 0 ≤ x ∧ x < len) (bd : Nat) (V4 : AV) (ii : Int) : ∀ (m : Nat) (k q bc : Nat) (dn : List Bool) (cy : List Int) (σ : St), dn.length = len → k < len → dn.count false < m → q = cy.length → q + m ≤ 100 → bc ≠ bd → RowA σ bd (bls dn) → Row σ bc cy →
    ∃ σ' bc' q' kf, exI TT (FI.of Try.f51 (TT.an 51)) K51_1 [(0, .lst len (ints l)), (4, V4), (5, .sl bd 0 len len), (7, .sl bc 0 q q), (8, (.int .i64 k)), (17, .int .i64 len), (18, .int .i64 ii)] σ = exI TT (FI.of Try.f51 (TT.an 51)) R51_1_2 [(0, .lst len (ints l)), (4, V4), (5, .sl bd 0 len len), (7, .sl bc' 0 q' q'), (8, (.int .i64 kf)), (17, .int .i64 len), (18, .int .i64 ii), (27, .bool false)] σ' ∧
      RowA σ' bd (bls (wlk l m k dn cy).1) ∧ Row σ' bc' (wlk l m k dn cy).2 ∧ q' = (wlk l m k dn cy).2.length ∧ σ.n ≤ σ'.n ∧ (bc' = bc ∨ σ.n ≤ bc') ∧ bc' ≠ bd ∧ ∀ c, c ≠ bd → c ≠ bc → c < σ.n → σ'.get c = σ.get c := by
  intro m
  induction m with
  | zero => intro k q bc dn cy σ _ _ hc; omega
  | succ m ih =>
    intro k q bc dn cy σ hdn hk hc hq hqm hbb hd hcy
    have hrd := hd.read (atB_some (dn := dn) (k := k) (by omega))
    cases hb : atB dn k with
    | true =>
      rw [hb] at hrd
      refine ⟨σ, bc, q, k, ?_, by rw [wlk, if_pos hb]; exact hd, by rw [wlk, if_pos hb]; exact hcy, by rw [wlk, if_pos hb]; exact hq, Nat.le_refl _, .inl rfl, hbb, fun _ _ _ _ => rfl⟩
      rw [fi51, xl51_1]
      simp only [B51_1, b51, Try.f51, Option.getD, fstC, sndC, bodyC, thnC, elsC]
      simp (maxSteps := 1000000) (disch := omega) [xI_seq, xI_region, xI_ret, regA, regOps, runOps, opStep, wantedA, opA, evo, evos, calleeA, lk, nif_eq, putE, paramsE, valS, val2, keepE, restrict, finA, resA, binA, binInt, ofConst, ofConst1, loadA, TK.isAgg, asVar, unA, builtinA, lenOpA, lenA, indexAddrA, evPairs, storeA, AV.cellsOf, pairsOf, xI_nil, binBool, gcE, evOpt, runTr, pairsOk, pairOk, sameVal, AV.eqv, lastOf, lstAt, eqvs, boundA, indexA, regF, twoOf, prsOf, memI, runTrF, selF, runTr2, freshOp, scals, AV.scal, xI_block, xI_loopH, xI_condM, xI_exitM, xI_skip, xI_blk, exitA, List.getElem?_cons_zero, List.getElem?_cons_succ, List.getElem?_toArray, List.getElem?_nil, ileb_t, ileb_f, ieqb_t, ieqb_f, inB_t, wrapA_id, lp_read, ieqb_self, Nat.blt_eq, cond_true, cond_false, ty2, ty3, ty4, ty22, ty40, ty67, eK51_0_0, eK51_1_2, eK51_1_1, eK51_1_0, hrd]
    | false =>
      rw [hb] at hrd
      have hx := hr (at0 l k) (at0_mem (by omega))
      obtain ⟨k2, hk2⟩ : ∃ k2 : Nat, at0 l k = k2 := ⟨(at0 l k).toNat, by omega⟩
      have hcs := cnt_set dn k (by omega) hb
      obtain ⟨σ1, s1, r1, n1, o1⟩ := hd.store (i := k) (v := .bool true) (by rw [bls_length]; omega) rfl
      rw [bls_set] at r1
      have hcy1 : Row σ1 bc cy := hcy.keep (Nat.le_of_eq n1.symm) (o1 bc hbb)
      obtain ⟨σ2, ha, r2, n2, k2'⟩ := append_row (T := TT) (x := (k : Int)) ty22 ty2 hcy1 hq (by omega)
      have hlt := r1.lt
      have r1' : RowA σ2 bd (bls (dn.set k true)) := r1.keep (by omega) (k2' bd (fun e => hbb e.symm) hlt)
      obtain ⟨σ', bc', q', kf, h1, h2, h3, h4, h5, h6, h7, h8⟩ := ih k2 (q + 1) (σ1.n + 1) (dn.set k true) (cy ++ [(k : Int)]) σ2 (by simpa using hdn) (by omega) (by omega) (by simp [hq]) (by omega) (by omega) r1' r2
      have hw : wlk l (m + 1) k dn cy = wlk l m k2 (dn.set k true) (cy ++ [(k : Int)]) := by
        rw [wlk, if_neg (by rw [hb]; simp), hk2]; rfl
      rw [hw]
      refine ⟨σ', bc', q', kf, ?_, h2, h3, h4, by omega, ?_, h7, fun c c1 c2 c3 => ?_⟩
      · rw [← h1]
        rw [fi51, xl51_1]
        simp only [B51_1, b51, Try.f51, Option.getD, fstC, sndC, bodyC, thnC, elsC]
        simp (maxSteps := 1000000) (disch := omega) [xI_seq, xI_region, xI_ret, regA, regOps, runOps, opStep, wantedA, opA, evo, evos, calleeA, lk, nif_eq, putE, paramsE, valS, val2, keepE, restrict, finA, resA, binA, binInt, ofConst, ofConst1, loadA, TK.isAgg, asVar, unA, builtinA, lenOpA, lenA, indexAddrA, evPairs, storeA, AV.cellsOf, pairsOf, xI_nil, binBool, gcE, evOpt, runTr, pairsOk, pairOk, sameVal, AV.eqv, lastOf, lstAt, eqvs, boundA, indexA, regF, twoOf, prsOf, memI, runTrF, selF, runTr2, freshOp, scals, AV.scal, xI_block, xI_loopH, xI_condM, xI_exitM, xI_skip, xI_blk, exitA, List.getElem?_cons_zero, List.getElem?_cons_succ, List.getElem?_toArray, List.getElem?_nil, ileb_t, ileb_f, ieqb_t, ieqb_f, inB_t, wrapA_id, lp_read, ieqb_self, Nat.blt_eq, cond_true, cond_false, ty2, ty3, ty4, ty22, ty40, ty67, eK51_0_0, eK51_1_2, eK51_1_1, eK51_1_0, hrd, hk2, s1, ha, bs22]
      · rcases h6 with h | h
        · right; omega
        · right; omega
      · rw [h8 c c1 (by omega) (by omega), k2' c c2 (by omega), o1 c c1]

set_option maxHeartbeats 4000000 in
theorem l51 (l : List Int) (len : Nat) (hlen : len = l.length) (hs : len ≤ 12) (hr : ∀ x ∈ l, 0 ≤ x ∧ x < len) (bd : Nat) : ∀ (m i : Nat) (dn : List Bool) (L : List (List Int)) (b n : Nat) (bs : List Nat) (σ : St), i + m = len → dn.length = len → n = L.length → n + m ≤ 100 → bd ∉ b :: bs → RowA σ bd (bls dn) → Row2 σ b bs L →
    ∃ σ' b' bs' n', exI TT (FI.of Try.f51 (TT.an 51)) K51_0 [(0, .lst len (ints l)), (4, .sl b 0 n n), (5, .sl bd 0 len len), (17, .int .i64 len), (18, .int .i64 i)] σ = some (.tup [.sl b' 0 n' n', .bool true], σ') ∧ Row2 σ' b' bs' (cycG l len m i dn L) ∧ n' = (cycG l len m i dn L).length := by
  intro m
  induction m with
  | zero =>
    intro i dn L b n bs σ hi hdn hn hnm hbd hd hL
    obtain rfl : i = len := by omega
    refine ⟨σ, b, bs, n, ?_, hL, hn⟩
    rw [fi51]
    rw [xl51_0]
    simp only [B51_0, b51, Try.f51, Option.getD, fstC, sndC, bodyC, thnC, elsC]
    simp (maxSteps := 1000000) (disch := omega) [xI_seq, xI_region, xI_ret, regA, regOps, runOps, opStep, wantedA, opA, evo, evos, calleeA, lk, nif_eq, putE, paramsE, valS, val2, keepE, restrict, finA, resA, binA, binInt, ofConst, ofConst1, loadA, TK.isAgg, asVar, unA, builtinA, lenOpA, lenA, indexAddrA, evPairs, storeA, AV.cellsOf, pairsOf, xI_nil, binBool, gcE, evOpt, runTr, pairsOk, pairOk, sameVal, AV.eqv, lastOf, lstAt, eqvs, boundA, indexA, regF, twoOf, prsOf, memI, runTrF, selF, runTr2, freshOp, scals, AV.scal, xI_block, xI_loopH, xI_condM, xI_exitM, xI_skip, xI_blk, exitA, List.getElem?_cons_zero, List.getElem?_cons_succ, List.getElem?_toArray, List.getElem?_nil, ileb_t, ileb_f, ieqb_t, ieqb_f, inB_t, wrapA_id, lp_read, ieqb_self, Nat.blt_eq, cond_true, cond_false, ty2, ty3, ty4, ty22, ty40, ty67, eK51_0_0, eK51_1_2, eK51_1_1, eK51_1_0]
    simp only [R51_0_0, b51, Try.f51, Option.getD, fstC, sndC, bodyC, thnC, elsC]
    simp (maxSteps := 1000000) (disch := omega) [xI_seq, xI_region, xI_ret, regA, regOps, runOps, opStep, wantedA, opA, evo, evos, calleeA, lk, nif_eq, putE, paramsE, valS, val2, keepE, restrict, finA, resA, binA, binInt, ofConst, ofConst1, loadA, TK.isAgg, asVar, unA, builtinA, lenOpA, lenA, indexAddrA, evPairs, storeA, AV.cellsOf, pairsOf, xI_nil, binBool, gcE, evOpt, runTr, pairsOk, pairOk, sameVal, AV.eqv, lastOf, lstAt, eqvs, boundA, indexA, regF, twoOf, prsOf, memI, runTrF, selF, runTr2, freshOp, scals, AV.scal, xI_block, xI_loopH, xI_condM, xI_exitM, xI_skip, xI_blk, exitA, List.getElem?_cons_zero, List.getElem?_cons_succ, List.getElem?_toArray, List.getElem?_nil, ileb_t, ileb_f, ieqb_t, ieqb_f, inB_t, wrapA_id, lp_read, ieqb_self, Nat.blt_eq, cond_true, cond_false, ty2, ty3, ty4, ty22, ty40, ty67, eK51_0_0, eK51_1_2, eK51_1_1, eK51_1_0]
  | succ m ih =>
    intro i dn L b n bs σ hi hdn hn hnm hbd hd hL
    have hdl := hd.lt
    have hbl := hL.1.lt
    have hcnt : dn.count false < len + 1 := by have := List.count_le_length (a := false) (l := dn); omega
    obtain ⟨σ1, bc, q, kf, h1, h2, h3, h4, h5, h6, h7, h8⟩ := d51 l len hlen hs hr bd (.sl b 0 n n) i (len + 1) i 0 σ.n dn [] (σ.push ⟨ints [], 1, false⟩) hdn (by omega) hcnt rfl (by omega) (by omega) (hd.old Old.push) Row.push
    have hbcn : σ.n ≤ bc := by rcases h6 with h | h; · omega
                               · simp only [n_push] at h; omega
    have h8' : ∀ c, c ≠ bd → c < σ.n → σ1.get c = σ.get c := fun c c1 c2 => by
      rw [h8 c c1 (by omega) (by simp only [n_push]; omega), get_push_lt c2]
    simp only [n_push] at h5
    have hL1 : Row2 σ1 b bs L := hL.keep (by omega) (fun c hc hlt => h8' c (fun e => hbd (e ▸ hc)) hlt)
    cases hb : atB dn i with
    | true =>
      have hw : wlk l (len + 1) i dn [] = (dn, []) := by rw [wlk, if_pos hb]
      rw [hw] at h2 h3 h4
      obtain rfl : q = 0 := h4
      obtain ⟨σ', b', bs', n', k1, k2, k3⟩ := ih (i + 1) dn L b n bs σ1 (by omega) hdn hn (by omega) hbd h2 hL1
      refine ⟨σ', b', bs', n', ?_, by rw [cycG, if_pos hb]; exact k2, by rw [cycG, if_pos hb]; exact k3⟩
      rw [← k1]
      rw [fi51] at h1 ⊢
      rw [xl51_0]
      simp only [B51_0, b51, Try.f51, Option.getD, fstC, sndC, bodyC, thnC, elsC]
      simp (maxSteps := 1000000) (disch := omega) [xI_seq, xI_region, xI_ret, regA, regOps, runOps, opStep, wantedA, opA, evo, evos, calleeA, lk, nif_eq, putE, paramsE, valS, val2, keepE, restrict, finA, resA, binA, binInt, ofConst, ofConst1, loadA, TK.isAgg, asVar, unA, builtinA, lenOpA, lenA, indexAddrA, evPairs, storeA, AV.cellsOf, pairsOf, xI_nil, binBool, gcE, evOpt, runTr, pairsOk, pairOk, sameVal, AV.eqv, lastOf, lstAt, eqvs, boundA, indexA, regF, twoOf, prsOf, memI, runTrF, selF, runTr2, freshOp, scals, AV.scal, xI_block, xI_loopH, xI_condM, xI_exitM, xI_skip, xI_blk, exitA, List.getElem?_cons_zero, List.getElem?_cons_succ, List.getElem?_toArray, List.getElem?_nil, ileb_t, ileb_f, ieqb_t, ieqb_f, inB_t, wrapA_id, lp_read, ieqb_self, Nat.blt_eq, cond_true, cond_false, ty2, ty3, ty4, ty22, ty40, ty67, eK51_0_0, eK51_1_2, eK51_1_1, eK51_1_0, bn22]
      refine h1.trans ?_
      simp only [R51_1_2, b51, Try.f51, Option.getD, fstC, sndC, bodyC, thnC, elsC]
      simp (maxSteps := 1000000) (disch := omega) [xI_seq, xI_region, xI_ret, regA, regOps, runOps, opStep, wantedA, opA, evo, evos, calleeA, lk, nif_eq, putE, paramsE, valS, val2, keepE, restrict, finA, resA, binA, binInt, ofConst, ofConst1, loadA, TK.isAgg, asVar, unA, builtinA, lenOpA, lenA, indexAddrA, evPairs, storeA, AV.cellsOf, pairsOf, xI_nil, binBool, gcE, evOpt, runTr, pairsOk, pairOk, sameVal, AV.eqv, lastOf, lstAt, eqvs, boundA, indexA, regF, twoOf, prsOf, memI, runTrF, selF, runTr2, freshOp, scals, AV.scal, xI_block, xI_loopH, xI_condM, xI_exitM, xI_skip, xI_blk, exitA, List.getElem?_cons_zero, List.getElem?_cons_succ, List.getElem?_toArray, List.getElem?_nil, ileb_t, ileb_f, ieqb_t, ieqb_f, inB_t, wrapA_id, lp_read, ieqb_self, Nat.blt_eq, cond_true, cond_false, ty2, ty3, ty4, ty22, ty40, ty67, eK51_0_0, eK51_1_2, eK51_1_1, eK51_1_0]
    | false =>
      have hone := wlk_one l (m := len) hb
      rw [← h4] at hone
      obtain ⟨σ2, ha, r2, n2, o2⟩ := append_cell (T := TT) (v := .sl bc 0 q q) ty40 ty22 rfl (by decide) (by decide) rfl (allOne_slc bs L) hL1.1 (hn.trans hL1.len.symm) (by omega)
      have hbcl := h3.lt
      have hbcb : bc ≠ b := by omega
      have hbnd := (List.nodup_cons.1 hL.2.2)
      have hbslt := hL.2.1.lt
      have h3' : Row σ2 bc (wlk l (len + 1) i dn []).2 := h3.keep (by omega) (o2 bc hbcb hbcl)
      have hb1 := hL1.1.lt
      have hr2 : Row2 σ2 (σ1.n + 1) (bs ++ [bc]) (L ++ [(wlk l (len + 1) i dn []).2]) := by
        refine ⟨?_, ?_, ?_⟩
        · rw [slc_append _ _ _ _ hL.2.1.len, ← h4]; exact r2
        · exact Rws.snoc h3' (hL1.2.1.keep (by omega) (fun c hc hlt => o2 c (fun e => hbnd.1 (e ▸ hc)) hlt))
        · refine List.nodup_cons.2 ⟨fun hx => ?_, List.nodup_append.2 ⟨hbnd.2, by simp, fun x hx y hy => ?_⟩⟩
          · rcases List.mem_append.1 hx with hx | hx
            · have := hbslt _ hx; omega
            · simp at hx; omega
          · simp at hy; have := hbslt _ hx; omega
      have hd2 : RowA σ2 bd (bls (wlk l (len + 1) i dn []).1) := h2.keep (by omega) (o2 bd (fun e => hbd (by simp [e])) h2.lt)
      have hbd2 : bd ∉ (σ1.n + 1) :: (bs ++ [bc]) := by
        simp only [List.mem_cons, List.mem_append, List.not_mem_nil, or_false, not_or] at hbd ⊢
        exact ⟨by have := h2.lt; omega, hbd.2, fun e => h7 e.symm⟩
      obtain ⟨σ', b', bs', n', k1, k2, k3⟩ := ih (i + 1) (wlk l (len + 1) i dn []).1 (L ++ [(wlk l (len + 1) i dn []).2]) (σ1.n + 1) (n + 1) (bs ++ [bc]) σ2 (by omega) (by rw [wlk_dn]; exact hdn) (by simp [hn]) (by omega) hbd2 hd2 hr2
      refine ⟨σ', b', bs', n', ?_, by rw [cycG, if_neg (by rw [hb]; simp)]; exact k2, by rw [cycG, if_neg (by rw [hb]; simp)]; exact k3⟩
      rw [← k1]
      rw [fi51] at h1 ⊢
      rw [xl51_0]
      simp only [B51_0, b51, Try.f51, Option.getD, fstC, sndC, bodyC, thnC, elsC]
      simp (maxSteps := 1000000) (disch := omega) [xI_seq, xI_region, xI_ret, regA, regOps, runOps, opStep, wantedA, opA, evo, evos, calleeA, lk, nif_eq, putE, paramsE, valS, val2, keepE, restrict, finA, resA, binA, binInt, ofConst, ofConst1, loadA, TK.isAgg, asVar, unA, builtinA, lenOpA, lenA, indexAddrA, evPairs, storeA, AV.cellsOf, pairsOf, xI_nil, binBool, gcE, evOpt, runTr, pairsOk, pairOk, sameVal, AV.eqv, lastOf, lstAt, eqvs, boundA, indexA, regF, twoOf, prsOf, memI, runTrF, selF, runTr2, freshOp, scals, AV.scal, xI_block, xI_loopH, xI_condM, xI_exitM, xI_skip, xI_blk, exitA, List.getElem?_cons_zero, List.getElem?_cons_succ, List.getElem?_toArray, List.getElem?_nil, ileb_t, ileb_f, ieqb_t, ieqb_f, inB_t, wrapA_id, lp_read, ieqb_self, Nat.blt_eq, cond_true, cond_false, ty2, ty3, ty4, ty22, ty40, ty67, eK51_0_0, eK51_1_2, eK51_1_1, eK51_1_0, bn22]
      refine h1.trans ?_
      simp only [R51_1_2, b51, Try.f51, Option.getD, fstC, sndC, bodyC, thnC, elsC]
      simp (maxSteps := 1000000) (disch := omega) [xI_seq, xI_region, xI_ret, regA, regOps, runOps, opStep, wantedA, opA, evo, evos, calleeA, lk, nif_eq, putE, paramsE, valS, val2, keepE, restrict, finA, resA, binA, binInt, ofConst, ofConst1, loadA, TK.isAgg, asVar, unA, builtinA, lenOpA, lenA, indexAddrA, evPairs, storeA, AV.cellsOf, pairsOf, xI_nil, binBool, gcE, evOpt, runTr, pairsOk, pairOk, sameVal, AV.eqv, lastOf, lstAt, eqvs, boundA, indexA, regF, twoOf, prsOf, memI, runTrF, selF, runTr2, freshOp, scals, AV.scal, xI_block, xI_loopH, xI_condM, xI_exitM, xI_skip, xI_blk, exitA, List.getElem?_cons_zero, List.getElem?_cons_succ, List.getElem?_toArray, List.getElem?_nil, ileb_t, ileb_f, ieqb_t, ieqb_f, inB_t, wrapA_id, lp_read, ieqb_self, Nat.blt_eq, cond_true, cond_false, ty2, ty3, ty4, ty22, ty40, ty67, eK51_0_0, eK51_1_2, eK51_1_1, eK51_1_0, bs40, ha]

set_option maxHeartbeats 2000000 in
theorem o51 (l : List Int) (len : Nat) (hlen : len = l.length) (hs : len < 3000000) : FnO2 TT 51 [.lst len (ints l)] (cycR l) := by
  have e1 := fun σ => v41 l len hlen hs σ [.lst len (ints l)] rfl
  unfold cycR
  cases ho : isO l with
  | false =>
    rw [ho] at e1
    rw [if_neg (by simp)]
    refine FnO2.mkN fn51 rfl md51 ⟨⟨[], 0⟩, ?_⟩
    rw [fi51]
    simp (maxSteps := 1000000) (disch := omega) [xI_seq, xI_region, xI_ret, regA, regOps, runOps, opStep, wantedA, opA, evo, evos, calleeA, lk, nif_eq, putE, paramsE, valS, val2, keepE, restrict, finA, resA, binA, binInt, ofConst, ofConst1, loadA, TK.isAgg, asVar, unA, builtinA, lenOpA, lenA, indexAddrA, evPairs, storeA, AV.cellsOf, pairsOf, xI_nil, binBool, gcE, evOpt, runTr, pairsOk, pairOk, sameVal, AV.eqv, lastOf, lstAt, eqvs, boundA, indexA, regF, twoOf, prsOf, memI, runTrF, selF, runTr2, freshOp, scals, AV.scal, xI_block, xI_loopH, xI_condM, xI_exitM, xI_skip, xI_blk, exitA, List.getElem?_cons_zero, List.getElem?_cons_succ, List.getElem?_toArray, List.getElem?_nil, ileb_t, ileb_f, ieqb_t, ieqb_f, inB_t, wrapA_id, lp_read, ieqb_self, Nat.blt_eq, cond_true, cond_false, ty2, ty3, ty4, ty22, ty40, ty67, eK51_0_0, eK51_1_2, eK51_1_1, eK51_1_0, e1]
  | true =>
    rw [ho] at e1
    rw [if_pos rfl]
    have hl := isO_len ho
    have e2 := fun σ => v75 l len σ [.lst len (ints l)] rfl
    have e3 := fun σ => mk67 σ len (by omega)
    have hr0 : Row2 (((⟨[], 0⟩ : St).push ⟨slc [] [], 1, false⟩).push ⟨bls (List.replicate len false), 1, false⟩) 0 [] [] := ⟨RowA.push.old Old.push, trivial, by simp⟩
    obtain ⟨σ', b', bs', n', h1, h2, h3⟩ := l51 l len hlen (by omega) (by rw [hlen]; exact isO_in ho) 1 len 0 (List.replicate len false) [] 0 0 [] _ (by omega) (by simp) rfl (by omega) (by simp) RowA.push hr0
    have hc : cycG l len len 0 (List.replicate len false) [] = cyc l := by rw [hlen]; rfl
    rw [hc] at h2 h3
    refine FnO2.mkS fn51 rfl md51 ⟨σ', b', bs', ?_, h2⟩
    rw [← h3, ← h1]
    rw [fi51]
    simp (maxSteps := 1000000) (disch := omega) [xI_seq, xI_region, xI_ret, regA, regOps, runOps, opStep, wantedA, opA, evo, evos, calleeA, lk, nif_eq, putE, paramsE, valS, val2, keepE, restrict, finA, resA, binA, binInt, ofConst, ofConst1, loadA, TK.isAgg, asVar, unA, builtinA, lenOpA, lenA, indexAddrA, evPairs, storeA, AV.cellsOf, pairsOf, xI_nil, binBool, gcE, evOpt, runTr, pairsOk, pairOk, sameVal, AV.eqv, lastOf, lstAt, eqvs, boundA, indexA, regF, twoOf, prsOf, memI, runTrF, selF, runTr2, freshOp, scals, AV.scal, xI_block, xI_loopH, xI_condM, xI_exitM, xI_skip, xI_blk, exitA, List.getElem?_cons_zero, List.getElem?_cons_succ, List.getElem?_toArray, List.getElem?_nil, ileb_t, ileb_f, ieqb_t, ieqb_f, inB_t, wrapA_id, lp_read, ieqb_self, Nat.blt_eq, cond_true, cond_false, ty2, ty3, ty4, ty22, ty40, ty67, eK51_0_0, eK51_1_2, eK51_1_1, eK51_1_0, e1, e2, e3, bn40]
    rfl

noncomputable def b50 : Code := Try.f50.body.getD .skip
noncomputable def B50_0 : Code := (bodyC (bodyC (sndC (fstC (sndC (sndC (sndC (sndC b50))))))))
noncomputable def K50_0 : List It := .lp B50_0 :: .blk 0 :: .code (sndC (sndC (sndC (sndC (sndC b50))))) :: []
theorem xl50_0 {fi : FI} {env : Env} {σ : St} : exI TT fi K50_0 env σ = exI TT fi (.code B50_0 :: K50_0) env σ := by unfold K50_0; exact xI_lp
noncomputable def R50_0_0 : List It := .code (sndC (sndC (sndC (sndC (sndC b50))))) :: []
theorem eK50_0_0 : exitA 0 K50_0 = some R50_0_0 := rfl
noncomputable def B50_1 : Code := (bodyC (bodyC (sndC (fstC (sndC (sndC (bodyC (fstC (sndC (bodyC (bodyC (sndC (fstC (sndC (sndC (sndC (sndC b50)))))))))))))))))
noncomputable def K50_1 : List It := .lp B50_1 :: .blk 2 :: .code (sndC (sndC (sndC (bodyC (fstC (sndC (bodyC (bodyC (sndC (fstC (sndC (sndC (sndC (sndC b50)))))))))))))) :: .blk 1 :: .code (sndC (sndC (bodyC (bodyC (sndC (fstC (sndC (sndC (sndC (sndC b50)))))))))) :: K50_0
theorem xl50_1 {fi : FI} {env : Env} {σ : St} : exI TT fi K50_1 env σ = exI TT fi (.code B50_1 :: K50_1) env σ := by unfold K50_1; exact xI_lp
noncomputable def R50_1_2 : List It := .code (sndC (sndC (sndC (bodyC (fstC (sndC (bodyC (bodyC (sndC (fstC (sndC (sndC (sndC (sndC b50)))))))))))))) :: .blk 1 :: .code (sndC (sndC (bodyC (bodyC (sndC (fstC (sndC (sndC (sndC (sndC b50)))))))))) :: K50_0
theorem eK50_1_2 : exitA 2 K50_1 = some R50_1_2 := rfl
noncomputable def R50_1_1 : List It := .code (sndC (sndC (bodyC (bodyC (sndC (fstC (sndC (sndC (sndC (sndC b50)))))))))) :: K50_0
theorem eK50_1_1 : exitA 1 K50_1 = some R50_1_1 := rfl
theorem eK50_1_0 : exitA 0 K50_1 = some R50_0_0 := rfl
set_option maxHeartbeats 2000000 in
theorem d50 (l : List Int) (len : Nat) (hlen : len = l.length) (hs : len ≤ 12) (hr : ∀ x ∈ l, 0 ≤ x ∧ x < len) (bd : Nat) (V4 : AV) (ii : Int) : ∀ (m : Nat) (k q bc : Nat) (dn : List Bool) (cy : List Int) (σ : St), dn.length = len → k < len → dn.count false < m → q = cy.length → q + m ≤ 100 → bc ≠ bd → RowA σ bd (bls dn) → Row σ bc cy →
    ∃ σ' bc' q' kf, exI TT (FI.of Try.f50 (TT.an 50)) K50_1 [(0, .lst len (ints l)), (4, .sl bd 0 len len), (5, V4), (6, .int .i64 ii), (7, .sl bc 0 q q), (8, (.int .i64 k))] σ = exI TT (FI.of Try.f50 (TT.an 50)) R50_1_2 [(0, .lst len (ints l)), (4, .sl bd 0 len len), (5, V4), (6, .int .i64 ii), (7, .sl bc' 0 q' q'), (8, (.int .i64 kf)), (32, .bool false)] σ' ∧
      RowA σ' bd (bls (wlk l m k dn cy).1) ∧ Row σ' bc' (wlk l m k dn cy).2 ∧ q' = (wlk l m k dn cy).2.length ∧ σ.n ≤ σ'.n ∧ (bc' = bc ∨ σ.n ≤ bc') ∧ bc' ≠ bd ∧ ∀ c, c ≠ bd → c ≠ bc → c < σ.n → σ'.get c = σ.get c := by
  intro m
  induction m with
  | zero => intro k q bc dn cy σ _ _ hc; omega
  | succ m ih =>
    intro k q bc dn cy σ hdn hk hc hq hqm hbb hd hcy
    have hrd := hd.read (atB_some (dn := dn) (k := k) (by omega))
    cases hb : atB dn k with
    | true =>
      rw [hb] at hrd
      refine ⟨σ, bc, q, k, ?_, by rw [wlk, if_pos hb]; exact hd, by rw [wlk, if_pos hb]; exact hcy, by rw [wlk, if_pos hb]; exact hq, Nat.le_refl _, .inl rfl, hbb, fun _ _ _ _ => rfl⟩
      rw [fi50, xl50_1]
      simp only [B50_1, b50, Try.f50, Option.getD, fstC, sndC, bodyC, thnC, elsC]
      simp (maxSteps := 1000000) (disch := omega) [xI_seq, xI_region, xI_ret, regA, regOps, runOps, opStep, wantedA, opA, evo, evos, calleeA, lk, nif_eq, putE, paramsE, valS, val2, keepE, restrict, finA, resA, binA, binInt, ofConst, ofConst1, loadA, TK.isAgg, asVar, unA, builtinA, lenOpA, lenA, indexAddrA, evPairs, storeA, AV.cellsOf, pairsOf, xI_nil, binBool, gcE, evOpt, runTr, pairsOk, pairOk, sameVal, AV.eqv, lastOf, lstAt, eqvs, boundA, indexA, regF, twoOf, prsOf, memI, runTrF, selF, runTr2, freshOp, scals, AV.scal, xI_block, xI_loopH, xI_condM, xI_exitM, xI_skip, xI_blk, exitA, List.getElem?_cons_zero, List.getElem?_cons_succ, List.getElem?_toArray, List.getElem?_nil, ileb_t, ileb_f, ieqb_t, ieqb_f, inB_t, wrapA_id, lp_read, ieqb_self, Nat.blt_eq, cond_true, cond_false, ty2, ty4, ty22, ty40, ty67, eK50_0_0, eK50_1_2, eK50_1_1, eK50_1_0, hrd]
    | false =>
      rw [hb] at hrd
      have hx := hr (at0 l k) (at0_mem (by omega))
      obtain ⟨k2, hk2⟩ : ∃ k2 : Nat, at0 l k = k2 := ⟨(at0 l k).toNat, by omega⟩
      have hcs := cnt_set dn k (by omega) hb
      obtain ⟨σ1, s1, r1, n1, o1⟩ := hd.store (i := k) (v := .bool true) (by rw [bls_length]; omega) rfl
      rw [bls_set] at r1
      have hcy1 : Row σ1 bc cy := hcy.keep (Nat.le_of_eq n1.symm) (o1 bc hbb)
      obtain ⟨σ2, ha, r2, n2, k2'⟩ := append_row (T := TT) (x := (k : Int)) ty22 ty2 hcy1 hq (by omega)
      have hlt := r1.lt
      have r1' : RowA σ2 bd (bls (dn.set k true)) := r1.keep (by omega) (k2' bd (fun e => hbb e.symm) hlt)
      obtain ⟨σ', bc', q', kf, h1, h2, h3, h4, h5, h6, h7, h8⟩ := ih k2 (q + 1) (σ1.n + 1) (dn.set k true) (cy ++ [(k : Int)]) σ2 (by simpa using hdn) (by omega) (by omega) (by simp [hq]) (by omega) (by omega) r1' r2
      have hw : wlk l (m + 1) k dn cy = wlk l m k2 (dn.set k true) (cy ++ [(k : Int)]) := by
        rw [wlk, if_neg (by rw [hb]; simp), hk2]; rfl
      rw [hw]
      refine ⟨σ', bc', q', kf, ?_, h2, h3, h4, by omega, ?_, h7, fun c c1 c2 c3 => ?_⟩
      · rw [← h1]
        rw [fi50, xl50_1]
        simp only [B50_1, b50, Try.f50, Option.getD, fstC, sndC, bodyC, thnC, elsC]
        simp (maxSteps := 1000000) (disch := omega) [xI_seq, xI_region, xI_ret, regA, regOps, runOps, opStep, wantedA, opA, evo, evos, calleeA, lk, nif_eq, putE, paramsE, valS, val2, keepE, restrict, finA, resA, binA, binInt, ofConst, ofConst1, loadA, TK.isAgg, asVar, unA, builtinA, lenOpA, lenA, indexAddrA, evPairs, storeA, AV.cellsOf, pairsOf, xI_nil, binBool, gcE, evOpt, runTr, pairsOk, pairOk, sameVal, AV.eqv, lastOf, lstAt, eqvs, boundA, indexA, regF, twoOf, prsOf, memI, runTrF, selF, runTr2, freshOp, scals, AV.scal, xI_block, xI_loopH, xI_condM, xI_exitM, xI_skip, xI_blk, exitA, List.getElem?_cons_zero, List.getElem?_cons_succ, List.getElem?_toArray, List.getElem?_nil, ileb_t, ileb_f, ieqb_t, ieqb_f, inB_t, wrapA_id, lp_read, ieqb_self, Nat.blt_eq, cond_true, cond_false, ty2, ty4, ty22, ty40, ty67, eK50_0_0, eK50_1_2, eK50_1_1, eK50_1_0, hrd, hk2, s1, ha, bs22]
      · rcases h6 with h | h
        · right; omega
        · right; omega
      · rw [h8 c c1 (by omega) (by omega), k2' c c2 (by omega), o1 c c1]

set_option maxHeartbeats 4000000 in
theorem l50 (l : List Int) (len : Nat) (hlen : len = l.length) (hs : len ≤ 12) (hr : ∀ x ∈ l, 0 ≤ x ∧ x < len) (bd : Nat) : ∀ (m i : Nat) (dn : List Bool) (L : List (List Int)) (b n : Nat) (bs : List Nat) (σ : St), i + m = len → dn.length = len → n = L.length → n + m ≤ 100 → bd ∉ b :: bs → RowA σ bd (bls dn) → Row2 σ b bs L →
    ∃ σ' b' bs' n', exI TT (FI.of Try.f50 (TT.an 50)) K50_0 [(0, .lst len (ints l)), (4, .sl bd 0 len len), (5, .sl b 0 n n), (6, .int .i64 i)] σ = some (.tup [.sl b' 0 n' n', .bool true], σ') ∧ Row2 σ' b' bs' (cycG l len m i dn L) ∧ n' = (cycG l len m i dn L).length := by
  intro m
  induction m with
  | zero =>
    intro i dn L b n bs σ hi hdn hn hnm hbd hd hL
    obtain rfl : i = len := by omega
    refine ⟨σ, b, bs, n, ?_, hL, hn⟩
    rw [fi50]
    rw [xl50_0]
    simp only [B50_0, b50, Try.f50, Option.getD, fstC, sndC, bodyC, thnC, elsC]
    simp (maxSteps := 1000000) (disch := omega) [xI_seq, xI_region, xI_ret, regA, regOps, runOps, opStep, wantedA, opA, evo, evos, calleeA, lk, nif_eq, putE, paramsE, valS, val2, keepE, restrict, finA, resA, binA, binInt, ofConst, ofConst1, loadA, TK.isAgg, asVar, unA, builtinA, lenOpA, lenA, indexAddrA, evPairs, storeA, AV.cellsOf, pairsOf, xI_nil, binBool, gcE, evOpt, runTr, pairsOk, pairOk, sameVal, AV.eqv, lastOf, lstAt, eqvs, boundA, indexA, regF, twoOf, prsOf, memI, runTrF, selF, runTr2, freshOp, scals, AV.scal, xI_block, xI_loopH, xI_condM, xI_exitM, xI_skip, xI_blk, exitA, List.getElem?_cons_zero, List.getElem?_cons_succ, List.getElem?_toArray, List.getElem?_nil, ileb_t, ileb_f, ieqb_t, ieqb_f, inB_t, wrapA_id, lp_read, ieqb_self, Nat.blt_eq, cond_true, cond_false, ty2, ty4, ty22, ty40, ty67, eK50_0_0, eK50_1_2, eK50_1_1, eK50_1_0]
    simp only [R50_0_0, b50, Try.f50, Option.getD, fstC, sndC, bodyC, thnC, elsC]
    simp (maxSteps := 1000000) (disch := omega) [xI_seq, xI_region, xI_ret, regA, regOps, runOps, opStep, wantedA, opA, evo, evos, calleeA, lk, nif_eq, putE, paramsE, valS, val2, keepE, restrict, finA, resA, binA, binInt, ofConst, ofConst1, loadA, TK.isAgg, asVar, unA, builtinA, lenOpA, lenA, indexAddrA, evPairs, storeA, AV.cellsOf, pairsOf, xI_nil, binBool, gcE, evOpt, runTr, pairsOk, pairOk, sameVal, AV.eqv, lastOf, lstAt, eqvs, boundA, indexA, regF, twoOf, prsOf, memI, runTrF, selF, runTr2, freshOp, scals, AV.scal, xI_block, xI_loopH, xI_condM, xI_exitM, xI_skip, xI_blk, exitA, List.getElem?_cons_zero, List.getElem?_cons_succ, List.getElem?_toArray, List.getElem?_nil, ileb_t, ileb_f, ieqb_t, ieqb_f, inB_t, wrapA_id, lp_read, ieqb_self, Nat.blt_eq, cond_true, cond_false, ty2, ty4, ty22, ty40, ty67, eK50_0_0, eK50_1_2, eK50_1_1, eK50_1_0]
  | succ m ih =>
    intro i dn L b n bs σ hi hdn hn hnm hbd hd hL
    have hdl := hd.lt
    have hbl := hL.1.lt
    have hrd := hd.read (atB_some (dn := dn) (k := i) (by omega))
    cases hb : atB dn i with
    | true =>
      rw [hb] at hrd
      obtain ⟨σ', b', bs', n', k1, k2, k3⟩ := ih (i + 1) dn L b n bs σ (by omega) hdn hn (by omega) hbd hd hL
      refine ⟨σ', b', bs', n', ?_, by rw [cycG, if_pos hb]; exact k2, by rw [cycG, if_pos hb]; exact k3⟩
      rw [← k1]
      rw [fi50]
      rw [xl50_0]
      simp only [B50_0, b50, Try.f50, Option.getD, fstC, sndC, bodyC, thnC, elsC]
      simp (maxSteps := 1000000) (disch := omega) [xI_seq, xI_region, xI_ret, regA, regOps, runOps, opStep, wantedA, opA, evo, evos, calleeA, lk, nif_eq, putE, paramsE, valS, val2, keepE, restrict, finA, resA, binA, binInt, ofConst, ofConst1, loadA, TK.isAgg, asVar, unA, builtinA, lenOpA, lenA, indexAddrA, evPairs, storeA, AV.cellsOf, pairsOf, xI_nil, binBool, gcE, evOpt, runTr, pairsOk, pairOk, sameVal, AV.eqv, lastOf, lstAt, eqvs, boundA, indexA, regF, twoOf, prsOf, memI, runTrF, selF, runTr2, freshOp, scals, AV.scal, xI_block, xI_loopH, xI_condM, xI_exitM, xI_skip, xI_blk, exitA, List.getElem?_cons_zero, List.getElem?_cons_succ, List.getElem?_toArray, List.getElem?_nil, ileb_t, ileb_f, ieqb_t, ieqb_f, inB_t, wrapA_id, lp_read, ieqb_self, Nat.blt_eq, cond_true, cond_false, ty2, ty4, ty22, ty40, ty67, eK50_0_0, eK50_1_2, eK50_1_1, eK50_1_0, hrd]
    | false =>
      rw [hb] at hrd
      have hcnt : dn.count false < len + 1 := by have := List.count_le_length (a := false) (l := dn); omega
      obtain ⟨σ1, bc, q, kf, h1, h2, h3, h4, h5, h6, h7, h8⟩ := d50 l len hlen hs hr bd (.sl b 0 n n) i (len + 1) i 0 σ.n dn [] (σ.push ⟨ints [], 1, false⟩) hdn (by omega) hcnt rfl (by omega) (by omega) (hd.old Old.push) Row.push
      have hbcn : σ.n ≤ bc := by rcases h6 with h | h; · omega
                                 · simp only [n_push] at h; omega
      have h8' : ∀ c, c ≠ bd → c < σ.n → σ1.get c = σ.get c := fun c c1 c2 => by
        rw [h8 c c1 (by omega) (by simp only [n_push]; omega), get_push_lt c2]
      simp only [n_push] at h5
      have hL1 : Row2 σ1 b bs L := hL.keep (by omega) (fun c hc hlt => h8' c (fun e => hbd (e ▸ hc)) hlt)
      obtain ⟨σ2, ha, r2, n2, o2⟩ := append_cell (T := TT) (v := .sl bc 0 q q) ty40 ty22 rfl (by decide) (by decide) rfl (allOne_slc bs L) hL1.1 (hn.trans hL1.len.symm) (by omega)
      have hbcl := h3.lt
      have hbcb : bc ≠ b := by omega
      have hbnd := (List.nodup_cons.1 hL.2.2)
      have hbslt := hL.2.1.lt
      have h3' : Row σ2 bc (wlk l (len + 1) i dn []).2 := h3.keep (by omega) (o2 bc hbcb hbcl)
      have hb1 := hL1.1.lt
      have hr2 : Row2 σ2 (σ1.n + 1) (bs ++ [bc]) (L ++ [(wlk l (len + 1) i dn []).2]) := by
        refine ⟨?_, ?_, ?_⟩
        · rw [slc_append _ _ _ _ hL.2.1.len, ← h4]; exact r2
        · exact Rws.snoc h3' (hL1.2.1.keep (by omega) (fun c hc hlt => o2 c (fun e => hbnd.1 (e ▸ hc)) hlt))
        · refine List.nodup_cons.2 ⟨fun hx => ?_, List.nodup_append.2 ⟨hbnd.2, by simp, fun x hx y hy => ?_⟩⟩
          · rcases List.mem_append.1 hx with hx | hx
            · have := hbslt _ hx; omega
            · simp at hx; omega
          · simp at hy; have := hbslt _ hx; omega
      have hd2 : RowA σ2 bd (bls (wlk l (len + 1) i dn []).1) := h2.keep (by omega) (o2 bd (fun e => hbd (by simp [e])) h2.lt)
      have hbd2 : bd ∉ (σ1.n + 1) :: (bs ++ [bc]) := by
        simp only [List.mem_cons, List.mem_append, List.not_mem_nil, or_false, not_or] at hbd ⊢
        exact ⟨by have := h2.lt; omega, hbd.2, fun e => h7 e.symm⟩
      obtain ⟨σ', b', bs', n', k1, k2, k3⟩ := ih (i + 1) (wlk l (len + 1) i dn []).1 (L ++ [(wlk l (len + 1) i dn []).2]) (σ1.n + 1) (n + 1) (bs ++ [bc]) σ2 (by omega) (by rw [wlk_dn]; exact hdn) (by simp [hn]) (by omega) hbd2 hd2 hr2
      refine ⟨σ', b', bs', n', ?_, by rw [cycG, if_neg (by rw [hb]; simp)]; exact k2, by rw [cycG, if_neg (by rw [hb]; simp)]; exact k3⟩
      rw [← k1]
      rw [fi50] at h1 ⊢
      rw [xl50_0]
      simp only [B50_0, b50, Try.f50, Option.getD, fstC, sndC, bodyC, thnC, elsC]
      simp (maxSteps := 1000000) (disch := omega) [xI_seq, xI_region, xI_ret, regA, regOps, runOps, opStep, wantedA, opA, evo, evos, calleeA, lk, nif_eq, putE, paramsE, valS, val2, keepE, restrict, finA, resA, binA, binInt, ofConst, ofConst1, loadA, TK.isAgg, asVar, unA, builtinA, lenOpA, lenA, indexAddrA, evPairs, storeA, AV.cellsOf, pairsOf, xI_nil, binBool, gcE, evOpt, runTr, pairsOk, pairOk, sameVal, AV.eqv, lastOf, lstAt, eqvs, boundA, indexA, regF, twoOf, prsOf, memI, runTrF, selF, runTr2, freshOp, scals, AV.scal, xI_block, xI_loopH, xI_condM, xI_exitM, xI_skip, xI_blk, exitA, List.getElem?_cons_zero, List.getElem?_cons_succ, List.getElem?_toArray, List.getElem?_nil, ileb_t, ileb_f, ieqb_t, ieqb_f, inB_t, wrapA_id, lp_read, ieqb_self, Nat.blt_eq, cond_true, cond_false, ty2, ty4, ty22, ty40, ty67, eK50_0_0, eK50_1_2, eK50_1_1, eK50_1_0, hrd, bn22]
      refine h1.trans ?_
      simp only [R50_1_2, b50, Try.f50, Option.getD, fstC, sndC, bodyC, thnC, elsC]
      simp (maxSteps := 1000000) (disch := omega) [xI_seq, xI_region, xI_ret, regA, regOps, runOps, opStep, wantedA, opA, evo, evos, calleeA, lk, nif_eq, putE, paramsE, valS, val2, keepE, restrict, finA, resA, binA, binInt, ofConst, ofConst1, loadA, TK.isAgg, asVar, unA, builtinA, lenOpA, lenA, indexAddrA, evPairs, storeA, AV.cellsOf, pairsOf, xI_nil, binBool, gcE, evOpt, runTr, pairsOk, pairOk, sameVal, AV.eqv, lastOf, lstAt, eqvs, boundA, indexA, regF, twoOf, prsOf, memI, runTrF, selF, runTr2, freshOp, scals, AV.scal, xI_block, xI_loopH, xI_condM, xI_exitM, xI_skip, xI_blk, exitA, List.getElem?_cons_zero, List.getElem?_cons_succ, List.getElem?_toArray, List.getElem?_nil, ileb_t, ileb_f, ieqb_t, ieqb_f, inB_t, wrapA_id, lp_read, ieqb_self, Nat.blt_eq, cond_true, cond_false, ty2, ty4, ty22, ty40, ty67, eK50_0_0, eK50_1_2, eK50_1_1, eK50_1_0, bs40, ha]

set_option maxHeartbeats 2000000 in
theorem o50 (l : List Int) (len : Nat) (hlen : len = l.length) (hs : len < 3000000) : FnO2 TT 50 [.lst len (ints l)] (cycR l) := by
  have e1 := fun σ => v87 l len hlen hs σ [.lst len (ints l)] rfl
  unfold cycR
  cases ho : isO l with
  | false =>
    rw [ho] at e1
    rw [if_neg (by simp)]
    refine FnO2.mkN fn50 rfl md50 ⟨⟨[], 0⟩, ?_⟩
    rw [fi50]
    simp (maxSteps := 1000000) (disch := omega) [xI_seq, xI_region, xI_ret, regA, regOps, runOps, opStep, wantedA, opA, evo, evos, calleeA, lk, nif_eq, putE, paramsE, valS, val2, keepE, restrict, finA, resA, binA, binInt, ofConst, ofConst1, loadA, TK.isAgg, asVar, unA, builtinA, lenOpA, lenA, indexAddrA, evPairs, storeA, AV.cellsOf, pairsOf, xI_nil, binBool, gcE, evOpt, runTr, pairsOk, pairOk, sameVal, AV.eqv, lastOf, lstAt, eqvs, boundA, indexA, regF, twoOf, prsOf, memI, runTrF, selF, runTr2, freshOp, scals, AV.scal, xI_block, xI_loopH, xI_condM, xI_exitM, xI_skip, xI_blk, exitA, List.getElem?_cons_zero, List.getElem?_cons_succ, List.getElem?_toArray, List.getElem?_nil, ileb_t, ileb_f, ieqb_t, ieqb_f, inB_t, wrapA_id, lp_read, ieqb_self, Nat.blt_eq, cond_true, cond_false, ty2, ty4, ty22, ty40, ty67, eK50_0_0, eK50_1_2, eK50_1_1, eK50_1_0, e1]
  | true =>
    rw [ho] at e1
    rw [if_pos rfl]
    have hl := isO_len ho
    have e3 := fun σ => mk67 σ len (by omega)
    have hr0 : Row2 (((⟨[], 0⟩ : St).push ⟨bls (List.replicate len false), 1, false⟩).push ⟨slc [] [], 1, false⟩) 1 [] [] := ⟨RowA.push, trivial, by simp⟩
    obtain ⟨σ', b', bs', n', h1, h2, h3⟩ := l50 l len hlen (by omega) (by rw [hlen]; exact isO_in ho) 0 len 0 (List.replicate len false) [] 1 0 [] _ (by omega) (by simp) rfl (by omega) (by simp) (RowA.push.old Old.push) hr0
    have hc : cycG l len len 0 (List.replicate len false) [] = cyc l := by rw [hlen]; rfl
    rw [hc] at h2 h3
    refine FnO2.mkS fn50 rfl md50 ⟨σ', b', bs', ?_, h2⟩
    rw [← h3, ← h1]
    rw [fi50]
    simp (maxSteps := 1000000) (disch := omega) [xI_seq, xI_region, xI_ret, regA, regOps, runOps, opStep, wantedA, opA, evo, evos, calleeA, lk, nif_eq, putE, paramsE, valS, val2, keepE, restrict, finA, resA, binA, binInt, ofConst, ofConst1, loadA, TK.isAgg, asVar, unA, builtinA, lenOpA, lenA, indexAddrA, evPairs, storeA, AV.cellsOf, pairsOf, xI_nil, binBool, gcE, evOpt, runTr, pairsOk, pairOk, sameVal, AV.eqv, lastOf, lstAt, eqvs, boundA, indexA, regF, twoOf, prsOf, memI, runTrF, selF, runTr2, freshOp, scals, AV.scal, xI_block, xI_loopH, xI_condM, xI_exitM, xI_skip, xI_blk, exitA, List.getElem?_cons_zero, List.getElem?_cons_succ, List.getElem?_toArray, List.getElem?_nil, ileb_t, ileb_f, ieqb_t, ieqb_f, inB_t, wrapA_id, lp_read, ieqb_self, Nat.blt_eq, cond_true, cond_false, ty2, ty4, ty22, ty40, ty67, eK50_0_0, eK50_1_2, eK50_1_1, eK50_1_0, e1, e3, bn40]
    rfl

set_option maxHeartbeats 4000000 in
theorem w16 (l : List Int) : FnV TT 16 [.lst l.length (ints l)] (.bool true) := by
  refine FnV.mk fn16 rfl md16 ?_ (fun _ => rfl) rfl
  by_cases hbig : 1048576 < l.length
  · refine ⟨⟨[], 0⟩, ?_⟩
    rw [fi16]
    simp (maxSteps := 1000000) (disch := omega) [xI_seq, xI_region, xI_ret, regA, regOps, runOps, opStep, wantedA, opA, evo, evos, calleeA, lk, nif_eq, putE, paramsE, valS, val2, keepE, restrict, finA, resA, binA, binInt, ofConst, ofConst1, loadA, TK.isAgg, asVar, unA, builtinA, lenOpA, lenA, indexAddrA, evPairs, storeA, AV.cellsOf, pairsOf, xI_nil, binBool, gcE, evOpt, runTr, pairsOk, pairOk, sameVal, AV.eqv, lastOf, lstAt, eqvs, boundA, indexA, regF, twoOf, prsOf, memI, runTrF, selF, runTr2, freshOp, scals, AV.scal, xI_block, xI_loopH, xI_condM, xI_exitM, xI_skip, xI_blk, exitA, List.getElem?_cons_zero, List.getElem?_cons_succ, List.getElem?_toArray, List.getElem?_nil, ileb_t, ileb_f, ieqb_t, ieqb_f, inB_t, wrapA_id, lp_read, ieqb_self, Nat.blt_eq, cond_true, cond_false, ty2, ty3, ty4, ty22]
  · have hl : l.length ≤ 1048576 := by omega
    have hS := o50 l l.length rfl (by omega)
    have hI := o51 l l.length rfl (by omega)
    obtain ⟨b1, σ1, c1, r1, o1, e1⟩ := FnS.row (s21 l l.length rfl (by omega)) (σ := (⟨[], 0⟩ : St)) (args := [.lst l.length (ints l)]) rfl
    cases hx : cycR l with
    | none =>
      rw [hx] at hS hI
      have c2 := hS σ1 [.sl b1 0 l.length l.length] (mapO_cons (r1.frz rfl (Nat.le_refl _)) rfl)
      obtain ⟨b3, σ3, c3, r3, o3, e3⟩ := FnS.row (s21 l l.length rfl (by omega)) (σ := σ1) (args := [.lst l.length (ints l)]) rfl
      have c4 := hI σ3 [.sl b3 0 l.length l.length] (mapO_cons (r3.frz rfl (Nat.le_refl _)) rfl)
      have c5 := fun σ => v52n σ [.nilS, .nilS] rfl
      obtain ⟨b6, σ6, c6, r6, o6, e6⟩ := FnS.row (s21 l l.length rfl (by omega)) (σ := σ3) (args := [.lst l.length (ints l)]) rfl
      have r3' := r3.old o6
      have c7 := v23 l l l.length l.length rfl rfl (by omega) σ6 [.sl b3 0 l.length l.length, .sl b6 0 l.length l.length] (mapO_cons (r3'.frz rfl (Nat.le_refl _)) (mapO_cons (r6.frz rfl (Nat.le_refl _)) rfl))
      simp only [decide_true] at c7
      obtain ⟨σ8, c8, r8, u8⟩ := m24 σ6 b3 l.length 1 l rfl (by omega) (by omega) r3'
      simp only [show ((1 : Nat) : Int) = 1 from rfl] at c8
      have c10 := fun σ => m53n σ 1
      have c11 := fun σ => v54n 1 σ [.nilS, .int .i64 1] rfl
      simp only [show ((1 : Nat) : Int) = 1 from rfl] at c10 c11
      obtain ⟨b12, σ12, c12, r12, o12, e12⟩ := FnS.row (s21 l l.length rfl (by omega)) (σ := σ8) (args := [.lst l.length (ints l)]) rfl
      have c13 := hI σ12 [.sl b12 0 l.length l.length] (mapO_cons (r12.frz rfl (Nat.le_refl _)) rfl)
      clear hS hI
      have hz1 : (0 : Int) ≤ 1 + (l.length : Int) := by omega
      have hbg : (l.length : Int) ≤ 1048576 := by omega
      simp only [Int.natCast_add, show ((1 : Nat) : Int) = 1 from rfl] at c8
      refine ⟨σ12, ?_⟩
      rw [fi16]
      simp [xI_seq, xI_region, xI_ret, regA, regOps, runOps, opStep, wantedA, opA, evo, evos, calleeA, lk, nif_eq, putE, paramsE, valS, val2, keepE, restrict, finA, resA, binA, binInt, ofConst, ofConst1, loadA, TK.isAgg, asVar, unA, builtinA, lenOpA, lenA, ileb_cast, ileb_eq, ieqb_dec, indexAddrA, inB_dec, evPairs, storeA, AV.cellsOf, pairsOf, xI_nil, binBool, gcE, evOpt, xI_block, xI_loopH, xI_condM, xI_exitM, xI_skip, xI_blk, exitA, ty2, ty3, ty4, ty22, hz1, hbg, c1, c2, c3, c4, c5, c6, c7, c8, c10, c11, c12, c13]
    | some L =>
      rw [hx] at hS hI
      have hsm : L.length ≤ 12 ∧ (∀ c ∈ L, c.length ≤ 13) ∧ totL L ≤ 156 := by
        unfold cycR at hx
        split at hx
        · rename_i ho; cases hx; exact cyc_small ho
        · cases hx
      obtain ⟨hs1, hs2, hs3⟩ := hsm
      have hat : ∀ i, i < L.length → (atL L i).length < 1000000 := fun i hi => by
        have := hs2 (atL L i) (List.mem_of_getElem? (atL_some hi)); omega
      obtain ⟨σ2, b2, bs2, c2, r2, o2, f2⟩ := hS σ1 [.sl b1 0 l.length l.length] (mapO_cons (r1.frz rfl (Nat.le_refl _)) rfl)
      obtain ⟨b3, σ3, c3, r3, o3, e3⟩ := FnS.row (s21 l l.length rfl (by omega)) (σ := σ2) (args := [.lst l.length (ints l)]) rfl
      obtain ⟨σ4, b4, bs4, c4, r4, o4, f4⟩ := hI σ3 [.sl b3 0 l.length l.length] (mapO_cons (r3.frz rfl (Nat.le_refl _)) rfl)
      have r2a := (r2.old o3).old o4
      have eqc : ∀ (σ : St) (b b' : Nat) (bs bs' : List Nat), Row2 σ b bs L → Row2 σ b' bs' L → callI TT 52 [.sl b 0 L.length L.length, .sl b' 0 L.length L.length] σ = some (.bool true, σ) := fun σ b b' bs bs' h h' =>
        v52 L L.length rfl (by omega) hat σ _ (mapO_cons (h.frz rfl (Nat.le_refl _)) (mapO_cons (h'.frz rfl (Nat.le_refl _)) rfl))
      have c5 := eqc σ4 b4 b2 bs4 bs2 r4 r2a
      obtain ⟨b6, σ6, c6, r6, o6, e6⟩ := FnS.row (s21 l l.length rfl (by omega)) (σ := σ4) (args := [.lst l.length (ints l)]) rfl
      have r3a := (r3.old o4).old o6
      have c7 := v23 l l l.length l.length rfl rfl (by omega) σ6 [.sl b3 0 l.length l.length, .sl b6 0 l.length l.length] (mapO_cons (r3a.frz rfl (Nat.le_refl _)) (mapO_cons (r6.frz rfl (Nat.le_refl _)) rfl))
      simp only [decide_true] at c7
      obtain ⟨σ8, c8, r8, u8⟩ := m24 σ6 b3 l.length 1 l rfl (by omega) (by omega) r3a
      have hb3 : σ2.n = b3 := e3
      have hl2 : ∀ x ∈ b2 :: bs2, x < σ2.n := fun x hx => by
        rcases List.mem_cons.1 hx with rfl | hx
        · exact r2.1.lt
        · exact r2.2.1.lt x hx
      have hn3 := o3.1
      have hb3lt := r3.lt
      have r4b : Row2 σ8 b4 bs4 L := (r4.old o6).keep (Nat.le_of_eq u8.1.symm) (fun c hc _ => u8.2 c (by have := f4 c hc; omega))
      have r2b : Row2 σ8 b2 bs2 L := (r2a.old o6).keep (Nat.le_of_eq u8.1.symm) (fun c hc _ => u8.2 c (by have := hl2 c hc; omega))
      have c9 := eqc σ8 b4 b2 bs4 bs2 r4b r2b
      obtain ⟨σ10, c10, r10, n10, k10⟩ := m53 σ8 b4 bs4 L L.length 1 rfl (by omega) (by omega) r4b
      have c11 := v54 L L.length 1 rfl (by omega) (by omega) σ10 [.sl b4 0 L.length L.length, .int .i64 (1 : Nat)] (mapO_cons (r10.frz (by rw [markL_length]) (Nat.le_refl _)) rfl)
      have r2c : Row2 σ10 b2 bs2 L := r2b.keep (Nat.le_of_eq n10.symm) (fun c hc _ => k10 c (fun h => by have := hl2 c hc; have := f4 c (by simp [h]); omega))
      obtain ⟨b12, σ12, c12, r12, o12, e12⟩ := FnS.row (s21 l l.length rfl (by omega)) (σ := σ10) (args := [.lst l.length (ints l)]) rfl
      obtain ⟨σ13, b13, bs13, c13, r13, o13, f13⟩ := hI σ12 [.sl b12 0 l.length l.length] (mapO_cons (r12.frz rfl (Nat.le_refl _)) rfl)
      have c14 := eqc σ13 b13 b2 bs13 bs2 r13 ((r2c.old o12).old o13)
      have c15 := v54 L L.length 1 rfl (by omega) (by omega) σ13 [.sl b4 0 L.length L.length, .int .i64 (1 : Nat)] (mapO_cons (((r10.old o12).old o13).frz (by rw [markL_length]) (Nat.le_refl _)) rfl)
      simp only [show ((1 : Nat) : Int) = 1 from rfl, Int.natCast_add] at c8 c10 c11 c15
      clear hS hI eqc
      have hz1 : (0 : Int) ≤ 1 + (l.length : Int) := by omega
      have hz2 : (0 : Int) ≤ 1 + (totL L : Int) := by omega
      have hbg : (l.length : Int) ≤ 1048576 := by omega
      refine ⟨σ13, ?_⟩
      rw [fi16]
      simp [xI_seq, xI_region, xI_ret, regA, regOps, runOps, opStep, wantedA, opA, evo, evos, calleeA, lk, nif_eq, putE, paramsE, valS, val2, keepE, restrict, finA, resA, binA, binInt, ofConst, ofConst1, loadA, TK.isAgg, asVar, unA, builtinA, lenOpA, lenA, ileb_cast, ileb_eq, ieqb_dec, indexAddrA, inB_dec, evPairs, storeA, AV.cellsOf, pairsOf, xI_nil, binBool, gcE, evOpt, xI_block, xI_loopH, xI_condM, xI_exitM, xI_skip, xI_blk, exitA, ty2, ty3, ty4, ty22, hz1, hz2, hbg, c1, c2, c3, c4, c5, c6, c7, c8, c9, c10, c11, c12, c13, c14, c15]

end Go.Proofs.Ytaniaeefijgaiaa
