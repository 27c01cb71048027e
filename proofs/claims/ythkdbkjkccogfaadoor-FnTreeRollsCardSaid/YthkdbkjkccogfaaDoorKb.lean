/- Contracts: trees and rolls. Nothing is claimed here; no condition. -/
import Derived.Test.YthkdbkjkccogfaaDoorKa
namespace Go.Proofs.YthkdbkjkccogfaaDoor
open Go Go.Abs
set_option linter.unusedSimpArgs false
set_option linter.unusedVariables false
open Go.Wd
/-- The faces of one level. -/
def lvF (e : Nat) : List Nat → Nat → List Nat
  | [], _ => []
  | w :: r, i => if modN (shrN w e) 2 = 1 then i :: lvF e r (i + 1) else lvF e r (i + 1)
def lvl (K : Nat) (ws : List Nat) (d : Nat) : List Nat := lvF (K - d) ws 0
def lvls (K : Nat) (ws : List Nat) (m : Nat) : List (List Nat) := (List.range m).map (lvl K ws)
theorem lvF_len (e : Nat) : ∀ (ws : List Nat) (i : Nat), (lvF e ws i).length ≤ ws.length
  | [], _ => Nat.le_refl _
  | w :: r, i => by
    have := lvF_len e r (i + 1)
    rw [lvF]; split <;> simp only [List.length_cons] <;> omega
theorem lvls_succ (K : Nat) (ws : List Nat) (m : Nat) : lvls K ws (m + 1) = lvls K ws m ++ [lvl K ws m] := by simp [lvls, List.range_succ]
theorem lvls_len (K : Nat) (ws : List Nat) (m : Nat) : (lvls K ws m).length = m := by simp [lvls]
theorem lvls_get (K : Nat) (ws : List Nat) {m d : Nat} (h : d < m) : (lvls K ws m)[d]? = some (lvl K ws d) := by simp [lvls, h]
def lvA (L : List (List Nat)) : List AV := L.map fun l => .lst l.length (ints (nints l))
theorem lvA_read {L : List (List Nat)} {i : Nat} {l : List Nat} {σ : St} (h : L[i]? = some l) : cellsAt σ (.lp (lvA L) i) 1 = some [.lst l.length (ints (nints l))] := by
  obtain ⟨hi, hx⟩ := List.getElem?_eq_some_iff.1 h
  show getCells (lvA L) i 1 = _
  rw [getCells_eq, if_pos (by simp [lvA]; omega)]
  simp only [lvA, ← List.map_drop, ← List.map_take]
  rw [List.drop_eq_getElem_cons hi, hx]
  rfl
/-- A row of rows. -/
def slA (bs : List (Nat × List Nat)) : List AV := bs.map fun q => .sl q.1 0 q.2.length q.2.length
def LRow (σ : St) (B : Nat) (bs : List (Nat × List Nat)) : Prop := ∃ o, σ.get B = some ⟨slA bs, 1, o⟩ ∧ B < σ.n ∧ ∀ q ∈ bs, q.1 ≠ B ∧ Row σ q.1 (nints q.2)
theorem getCells_slA {bs : List (Nat × List Nat)} {n : Nat} (h : n = bs.length) : getCells (slA bs) 0 n = some (slA bs) := by
  subst h
  rw [getCells_eq, if_pos (by simp [slA]), List.drop_zero, List.take_of_length_le (by simp [slA])]
theorem lb0 (σ : St) : buildSliceA TT σ 81 0 [] = some (.sl σ.n 0 0 0, σ.push ⟨slA [], 1, false⟩) := by
  simp [buildSliceA, ty81, ty24, fillA, repeatCells, slA]
theorem lb1 (σ : St) (b m : Nat) : buildSliceA TT σ 81 1 [(0, .sl b 0 m m)] = some (.sl σ.n 0 1 1, σ.push ⟨[.sl b 0 m m], 1, false⟩) := by
  simp [buildSliceA, ty81, ty24, fillA, repeatCells, putCells, AV.cellsOf, allOne, AV.one]
theorem lappend {σ : St} {B n b : Nat} {bs : List (Nat × List Nat)} {l : List Nat} (hb : LRow σ B bs) (hn : n = bs.length) (hs : n < 1000000) (hr : Row σ b (nints l)) (hbB : b ≠ B) :
    ∃ σ', appendA TT (σ.push ⟨[.sl b 0 l.length l.length], 1, false⟩) 81 81 (.sl B 0 n n) (.sl σ.n 0 1 1) = some (.sl (σ.n + 1) 0 (n + 1) (n + 1), σ') ∧ LRow σ' (σ.n + 1) (bs ++ [(b, l)]) ∧ σ'.n = σ.n + 2 := by
  obtain ⟨o, hg0, hbn, hq⟩ := hb
  obtain ⟨X, hX⟩ : ∃ X : AV, X = .sl b 0 l.length l.length := ⟨_, rfl⟩
  rw [← hX]
  have hX1 : AV.one X = true := by rw [hX]; rfl
  have hg : (σ.push ⟨[X], 1, false⟩).get B = some ⟨slA bs, 1, o⟩ := by rw [get_push_lt hbn]; exact hg0
  have h1 : firstA (σ.push ⟨[X], 1, false⟩) 1 1 (.sl σ.n 0 1 1) = some [X] := by
    simp [firstA, get_push_same, getCells, dropN, takeN]
  have hlen : (slA bs).length = bs.length := by simp [slA]
  have ha : appendA TT (σ.push ⟨[X], 1, false⟩) 81 81 (.sl B 0 n n) (.sl σ.n 0 1 1) =
      some (.sl (σ.n + 1) 0 (n + 1) (n + 1), (if o then (σ.push ⟨[X], 1, false⟩).del B else σ.push ⟨[X], 1, false⟩).push ⟨slA (bs ++ [(b, l)]), 1, true⟩) := by
    have hap : slA (bs ++ [(b, l)]) = slA bs ++ [X] := by rw [hX]; simp [slA]
    unfold appendA
    simp only [ty81, ty24, lenA, h1, allOne, hX1, Bool.and_self, hg, Nat.mul_one, getCells_slA hn, hlen]
    rw [if_neg (by simp), if_neg (by omega), if_pos ⟨by omega, by omega, trivial, by omega, by omega⟩, hap]
    cases o <;> simp [n_push, growE]
  have hold : ∀ c, c ≠ B → c < σ.n → ((if o then (σ.push ⟨[X], 1, false⟩).del B else σ.push ⟨[X], 1, false⟩).push ⟨slA (bs ++ [(b, l)]), 1, true⟩).get c = σ.get c := by
    intro c hc hcn
    have hd : ∀ τ : St, τ.n = σ.n + 1 → (τ.push ⟨slA (bs ++ [(b, l)]), 1, true⟩).get c = τ.get c := fun τ h => get_push_lt (by omega)
    cases o
    · simp only [Bool.false_eq_true, if_false]
      rw [hd _ rfl, get_push_lt hcn]
    · simp only [if_true]
      rw [hd _ rfl, get_del_ne (fun e => hc e.symm), get_push_lt hcn]
  have hn2 : ((if o then (σ.push ⟨[X], 1, false⟩).del B else σ.push ⟨[X], 1, false⟩).push ⟨slA (bs ++ [(b, l)]), 1, true⟩).n = σ.n + 2 := by cases o <;> rfl
  refine ⟨_, ha, ⟨true, ?_, ?_, ?_⟩, hn2⟩
  · cases o <;> exact get_push_same
  · rw [hn2]; omega
  · intro q hq'
    have hl : q.1 ≠ B ∧ Row σ q.1 (nints q.2) := by
      rcases List.mem_append.1 hq' with h | h
      · exact hq q h
      · rw [List.mem_singleton.1 h]; exact ⟨hbB, hr⟩
    have hlt := hl.2.lt
    exact ⟨by omega, hl.2.keep (by omega) (hold _ hl.1 hlt)⟩
theorem LRow.frz {σ : St} {B : Nat} {bs : List (Nat × List Nat)} {n : Nat} (h : LRow σ B bs) (hn : n = bs.length) : frzV σ 6 (.sl B 0 n n) = some (.lst n (lvA (bs.map (·.2)))) := by
  obtain ⟨o, hg, _, hq⟩ := h
  have key : ∀ bs : List (Nat × List Nat), (∀ q ∈ bs, Row σ q.1 (nints q.2)) → mapO (frzV σ 5) (slA bs) = some (lvA (bs.map (·.2))) := by
    intro bs
    induction bs with
    | nil => intro _; rfl
    | cons q r ih =>
      intro hq
      exact mapO_cons ((hq q (by simp)).frz (d := 3) (nints_length _).symm (Nat.le_refl _)) (ih fun x hx => hq x (by simp [hx]))
  unfold frzV
  simp only [hg, show 1 % 7000000000 = 1 from rfl, Nat.mul_one, getCells_slA hn, key bs (fun q h => (hq q h).2), Nat.le_refl, if_true]

noncomputable def b102 : Code := Tryd.f102.body.getD .skip
noncomputable def B102_0 : Code := (bodyC (bodyC (sndC (fstC (sndC (sndC b102))))))
noncomputable def K102_0 : List It := .lp B102_0 :: .blk 0 :: .code (sndC (sndC (sndC b102))) :: []
theorem xl102_0 {fi : FI} {env : Env} {σ : St} : exI TT fi K102_0 env σ = exI TT fi (.code B102_0 :: K102_0) env σ := by unfold K102_0; exact xI_lp
noncomputable def R102_0_0 : List It := .code (sndC (sndC (sndC b102))) :: []
theorem eK102_0_0 : exitA 0 K102_0 = some R102_0_0 := rfl
noncomputable def B102_1 : Code := (bodyC (bodyC (sndC (fstC (sndC (sndC (bodyC (fstC (sndC (sndC (bodyC (bodyC (sndC (fstC (sndC (sndC b102))))))))))))))))
noncomputable def K102_1 : List It := .lp B102_1 :: .blk 2 :: .code (sndC (sndC (sndC (bodyC (fstC (sndC (sndC (bodyC (bodyC (sndC (fstC (sndC (sndC b102))))))))))))) :: .blk 1 :: .code (sndC (sndC (sndC (bodyC (bodyC (sndC (fstC (sndC (sndC b102))))))))) :: K102_0
theorem xl102_1 {fi : FI} {env : Env} {σ : St} : exI TT fi K102_1 env σ = exI TT fi (.code B102_1 :: K102_1) env σ := by unfold K102_1; exact xI_lp
noncomputable def R102_1_2 : List It := .code (sndC (sndC (sndC (bodyC (fstC (sndC (sndC (bodyC (bodyC (sndC (fstC (sndC (sndC b102))))))))))))) :: .blk 1 :: .code (sndC (sndC (sndC (bodyC (bodyC (sndC (fstC (sndC (sndC b102))))))))) :: K102_0
theorem eK102_1_2 : exitA 2 K102_1 = some R102_1_2 := rfl
noncomputable def R102_1_1 : List It := .code (sndC (sndC (sndC (bodyC (bodyC (sndC (fstC (sndC (sndC b102))))))))) :: K102_0
theorem eK102_1_1 : exitA 1 K102_1 = some R102_1_1 := rfl
theorem eK102_1_0 : exitA 0 K102_1 = some R102_0_0 := rfl
theorem l102_in (K : Nat) (hK : K ≤ 6) (ws : List Nat) (hl : ws.length ≤ 5) (hw64 : ∀ x ∈ ws, x ≤ 64) (d B : Nat) (hd : d ≤ K) (b0 : Nat) : ∀ (suf : List Nat) (i : Nat) (acc : List Nat) (σ : St) (b : Nat), ws.drop i = suf → i ≤ ws.length → acc.length ≤ i → b0 ≤ b → b0 ≤ σ.n → Row σ b (nints acc) →
    ∃ (σ' : St) (b' : Nat), exI TT (FI.of Tryd.f102 (TT.an 102)) K102_1 ((0, .lst ws.length (ints (nints ws))) :: [(3, .int .i64 K), (4, .sl B 0 d d), (5, .int .i64 d), (6, .sl b 0 acc.length acc.length), (14, .int .i64 (K + 1 : Nat)), (15, .int .i64 d), (19, .lst ws.length (ints (nints ws))), (20, .int .i64 ws.length), (21, .int .i64 i)]) σ = exI TT (FI.of Tryd.f102 (TT.an 102)) R102_1_2 [(0, .lst ws.length (ints (nints ws))), (3, .int .i64 K), (4, .sl B 0 d d), (5, .int .i64 d), (6, .sl b' 0 (acc ++ lvF (K - d) suf i).length (acc ++ lvF (K - d) suf i).length), (14, .int .i64 (K + 1 : Nat)), (15, .int .i64 d), (19, .lst ws.length (ints (nints ws))), (20, .int .i64 ws.length), (21, .int .i64 ws.length), (22, .bool false)] σ' ∧ Row σ' b' (nints (acc ++ lvF (K - d) suf i)) ∧ b0 ≤ b' ∧ σ.n ≤ σ'.n ∧ ∀ c, c < b0 → σ'.get c = σ.get c := by
  intro suf
  induction suf with
  | nil =>
    intro i acc σ b h0 hi ha hb hbn hr
    have : (ws.drop i).length = 0 := by rw [h0]; rfl
    rw [List.length_drop] at this
    obtain rfl : i = ws.length := by omega
    rw [show acc ++ lvF (K - d) [] ws.length = acc by simp [lvF]]
    refine ⟨σ, b, ?_, hr, hb, Nat.le_refl _, fun _ _ => rfl⟩
    generalize ws.length = n at *
    generalize acc.length = m at *
    rw [fi102]
    conv => lhs; rw [xl102_1]
    simp only [B102_1, b102, Tryd.f102, Option.getD, fstC, sndC, bodyC, thnC, elsC]
    simp [xI_seq, xI_region, xI_ret, regA, regOps, runOps, opStep, wantedA, opA, evo, evos, calleeA, lk, nif_eq, putE, paramsE, valS, val2, keepE, restrict, finA, resA, binA, binInt, ofConst, ofConst1, loadA, TK.isAgg, asVar, unA, builtinA, lenOpA, lenA, ileb_cast, ileb_eq, ieqb_dec, indexAddrA, inB_dec, evPairs, storeA, AV.cellsOf, pairsOf, xI_nil, binBool, gcE, evOpt, tagZ, xI_block, xI_loopH, xI_condM, xI_exitM, xI_skip, xI_blk, exitA, ty2, ty3, ty24, ty81, eK102_0_0, eK102_1_2, eK102_1_1, eK102_1_0]
  | cons w suf ih =>
    intro i acc σ b h0 hi ha hb hbn hr
    obtain ⟨d1, d2, d3⟩ := dp1 h0
    have hwx := hw64 w (List.mem_of_getElem? d2)
    have rd : ∀ σ : St, cellsAt σ (.lp (ints (nints ws)) i) 1 = some [.int .i64 w] := fun σ => nints_read d2
    have hlt : (i : Int) < (ws.length : Int) := by omega
    have hnl : ¬ ws.length ≤ i := by omega
    have hw : wrapA .i64 ((i : Int) + 1) = (i : Int) + 1 := wrapA_id (by omega) (by omega)
    have hw1 : wrapA .i64 ((K : Int) - (d : Int)) = ((K - d : Nat) : Int) := by rw [wrapA_id (by omega) (by omega)]; omega
    have s1 := sh_r (a := w) (b := K - d) (by omega)
    have s2 := n_and1 (a := shrN w (K - d)) (by show w / 2 ^ (K - d) ≤ _; exact Nat.le_trans (Nat.div_le_self _ _) (by omega))
    have hpos : ¬ ((K - d : Nat) : Int) < 0 := by omega
    have bs1 : ∀ σ x, buildSliceA TT σ 24 1 [(0, .int .i64 x)] = some (.sl σ.n 0 1 1, σ.push ⟨[.int .i64 x], 1, false⟩) := fun σ x => build_one ty24 ty2
    by_cases hbit : modN (shrN w (K - d)) 2 = 1
    · obtain ⟨σ1, a1, r1, n1, o1⟩ := nints_append_row (x := i) ty24 ty2 hr (n := acc.length) rfl (by omega)
      obtain ⟨σ', b', h1, h2, h3, h4, h5⟩ := ih (i + 1) (acc ++ [i]) σ1 (σ.n + 1) d3 d1 (by simp; omega) (by omega) (by omega) r1
      have e : acc ++ lvF (K - d) (w :: suf) i = acc ++ [i] ++ lvF (K - d) suf (i + 1) := by rw [lvF, if_pos hbit]; simp
      rw [e]
      refine ⟨σ', b', ?_, h2, h3, by omega, fun c hc => (h5 c hc).trans (o1 c (by omega) (by omega))⟩
      rw [← h1, show ((i + 1 : Nat) : Int) = (i : Int) + 1 by omega, show (acc ++ [i]).length = acc.length + 1 by simp]
      clear h1 ih e h2 h0 d3
      have hbi : ((modN (shrN w (K - d)) 2 : Nat) : Int) = 1 := by omega
      generalize modN (shrN w (K - d)) 2 = M at *
      generalize shrN w (K - d) = S at *
      generalize K - d = q at *
      generalize acc.length = m at *
      generalize ws.length = n at *
      rw [fi102]
      conv => lhs; rw [xl102_1]
      simp only [B102_1, b102, Tryd.f102, Option.getD, fstC, sndC, bodyC, thnC, elsC]
      simp [xI_seq, xI_region, xI_ret, regA, regOps, runOps, opStep, wantedA, opA, evo, evos, calleeA, lk, nif_eq, putE, paramsE, valS, val2, keepE, restrict, finA, resA, binA, binInt, ofConst, ofConst1, loadA, TK.isAgg, asVar, unA, builtinA, lenOpA, lenA, ileb_cast, ileb_eq, ieqb_dec, indexAddrA, inB_dec, evPairs, storeA, AV.cellsOf, pairsOf, xI_nil, binBool, gcE, evOpt, tagZ, xI_block, xI_loopH, xI_condM, xI_exitM, xI_skip, xI_blk, exitA, ty2, ty3, ty24, ty81, eK102_0_0, eK102_1_2, eK102_1_1, eK102_1_0, hlt, hnl, d1, hw, hw1, rd, s1, s2, hpos, hbit, hbi, bs1, a1]
    · obtain ⟨σ', b', h1, h2, h3, h4, h5⟩ := ih (i + 1) acc σ b d3 d1 (by omega) hb hbn hr
      have e : acc ++ lvF (K - d) (w :: suf) i = acc ++ lvF (K - d) suf (i + 1) := by rw [lvF, if_neg hbit]
      rw [e]
      refine ⟨σ', b', ?_, h2, h3, h4, h5⟩
      rw [← h1, show ((i + 1 : Nat) : Int) = (i : Int) + 1 by omega]
      clear h1 ih e h2 h0 d3
      have hbi : ¬ ((modN (shrN w (K - d)) 2 : Nat) : Int) = 1 := by omega
      generalize modN (shrN w (K - d)) 2 = M at *
      generalize shrN w (K - d) = S at *
      generalize K - d = q at *
      generalize acc.length = m at *
      generalize ws.length = n at *
      rw [fi102]
      conv => lhs; rw [xl102_1]
      simp only [B102_1, b102, Tryd.f102, Option.getD, fstC, sndC, bodyC, thnC, elsC]
      simp [xI_seq, xI_region, xI_ret, regA, regOps, runOps, opStep, wantedA, opA, evo, evos, calleeA, lk, nif_eq, putE, paramsE, valS, val2, keepE, restrict, finA, resA, binA, binInt, ofConst, ofConst1, loadA, TK.isAgg, asVar, unA, builtinA, lenOpA, lenA, ileb_cast, ileb_eq, ieqb_dec, indexAddrA, inB_dec, evPairs, storeA, AV.cellsOf, pairsOf, xI_nil, binBool, gcE, evOpt, tagZ, xI_block, xI_loopH, xI_condM, xI_exitM, xI_skip, xI_blk, exitA, ty2, ty3, ty24, ty81, eK102_0_0, eK102_1_2, eK102_1_1, eK102_1_0, hlt, hnl, d1, hw, hw1, rd, s1, s2, hpos, hbit, hbi]
theorem l102_out (K : Nat) (hK : K ≤ 6) (ws : List Nat) (hl : ws.length ≤ 5) (hw64 : ∀ x ∈ ws, x ≤ 64) : ∀ (m d : Nat) (σ : St) (B : Nat) (bs : List (Nat × List Nat)), d + m = K + 1 → d = bs.length → LRow σ B bs → bs.map (·.2) = lvls K ws d →
    ∃ (σ' : St) (B' : Nat) (bs' : List (Nat × List Nat)), exI TT (FI.of Tryd.f102 (TT.an 102)) K102_0 [(0, .lst ws.length (ints (nints ws))), (3, .int .i64 K), (4, .sl B 0 d d), (14, .int .i64 (K + 1 : Nat)), (15, .int .i64 d)] σ = some (.sl B' 0 (K + 1) (K + 1), σ') ∧ LRow σ' B' bs' ∧ K + 1 = bs'.length ∧ bs'.map (·.2) = lvls K ws (K + 1) := by
  intro m
  induction m with
  | zero =>
    intro d σ B bs hd hb hr he
    obtain rfl : d = K + 1 := by omega
    refine ⟨σ, B, bs, ?_, hr, hb, he⟩
    generalize K + 1 = q at *
    rw [fi102]
    rw [xl102_0]
    simp only [B102_0, b102, Tryd.f102, Option.getD, fstC, sndC, bodyC, thnC, elsC]
    simp [xI_seq, xI_region, xI_ret, regA, regOps, runOps, opStep, wantedA, opA, evo, evos, calleeA, lk, nif_eq, putE, paramsE, valS, val2, keepE, restrict, finA, resA, binA, binInt, ofConst, ofConst1, loadA, TK.isAgg, asVar, unA, builtinA, lenOpA, lenA, ileb_cast, ileb_eq, ieqb_dec, indexAddrA, inB_dec, evPairs, storeA, AV.cellsOf, pairsOf, xI_nil, binBool, gcE, evOpt, tagZ, xI_block, xI_loopH, xI_condM, xI_exitM, xI_skip, xI_blk, exitA, ty2, ty3, ty24, ty81, eK102_0_0, eK102_1_2, eK102_1_1, eK102_1_0]
    simp only [R102_0_0, b102, Tryd.f102, Option.getD, fstC, sndC, bodyC, thnC, elsC]
    simp [xI_seq, xI_region, xI_ret, regA, regOps, runOps, opStep, wantedA, opA, evo, evos, calleeA, lk, nif_eq, putE, paramsE, valS, val2, keepE, restrict, finA, resA, binA, binInt, ofConst, ofConst1, loadA, TK.isAgg, asVar, unA, builtinA, lenOpA, lenA, ileb_cast, ileb_eq, ieqb_dec, indexAddrA, inB_dec, evPairs, storeA, AV.cellsOf, pairsOf, xI_nil, binBool, gcE, evOpt, tagZ, xI_block, xI_loopH, xI_condM, xI_exitM, xI_skip, xI_blk, exitA, ty2, ty3, ty24, ty81, eK102_0_0, eK102_1_2, eK102_1_1, eK102_1_0]
  | succ m ih =>
    intro d σ B bs hd hb hr he
    have bs0 : ∀ σ, buildSliceA TT σ 24 0 [] = some (.sl σ.n 0 0 0, σ.push ⟨ints [], 1, false⟩) := fun σ => build_nil ty24 ty2
    obtain ⟨o, hg, hBn, hq⟩ := hr
    have hrow : Row (σ.push ⟨ints [], 1, false⟩) σ.n (nints []) := Row.push
    obtain ⟨σ1, b1, h1, r1, hb1, n1, o1⟩ := l102_in K hK ws hl hw64 d B (by omega) σ.n ws 0 [] (σ.push ⟨ints [], 1, false⟩) σ.n rfl (Nat.zero_le _) (Nat.le_refl _) (Nat.le_refl _) (Nat.le_succ _) hrow
    have ho : ∀ c, c < σ.n → σ1.get c = σ.get c := fun c hc => (o1 c hc).trans (get_push_lt hc)
    have n1' : σ.n + 1 ≤ σ1.n := n1
    have hr1 : LRow σ1 B bs := ⟨o, (ho B hBn).trans hg, by omega, fun q hq' => ⟨(hq q hq').1, (hq q hq').2.keep (by omega) (ho _ (hq q hq').2.lt)⟩⟩
    simp only [List.nil_append] at h1 r1
    obtain ⟨σ2, a2, r2, n2⟩ := lappend hr1 hb (by omega) r1 (by omega)
    obtain ⟨σ', B', bs', h2, h3, h4, h5⟩ := ih (d + 1) σ2 (σ1.n + 1) (bs ++ [(b1, lvF (K - d) ws 0)]) (by omega) (by simp; omega) r2 (by rw [List.map_append, he, lvls_succ]; rfl)
    refine ⟨σ', B', bs', ?_, h3, h4, h5⟩
    rw [← h2, show ((d + 1 : Nat) : Int) = (d : Int) + 1 by omega]
    have hlt : (d : Int) < ((K + 1 : Nat) : Int) := by omega
    have hlt2 : d < K + 1 := by omega
    have hnl : ¬ K + 1 ≤ d := by omega
    have hw : wrapA .i64 ((d : Int) + 1) = (d : Int) + 1 := wrapA_id (by omega) (by omega)
    simp only [List.length_nil, show ((0 : Nat) : Int) = 0 from rfl] at h1
    clear h2 h3 h4 h5 ih r1 r2 hr1 hq he ho o1
    generalize (lvF (K - d) ws 0).length = M at *
    generalize ints (nints ws) = cs at *
    generalize ws.length = n at *
    generalize K + 1 = Q at *
    rw [fi102] at h1 ⊢
    conv => lhs; rw [xl102_0]
    simp only [B102_0, b102, Tryd.f102, Option.getD, fstC, sndC, bodyC, thnC, elsC]
    simp [xI_seq, xI_region, xI_ret, regA, regOps, runOps, opStep, wantedA, opA, evo, evos, calleeA, lk, nif_eq, putE, paramsE, valS, val2, keepE, restrict, finA, resA, binA, binInt, ofConst, ofConst1, loadA, TK.isAgg, asVar, unA, builtinA, lenOpA, lenA, ileb_cast, ileb_eq, ieqb_dec, indexAddrA, inB_dec, evPairs, storeA, AV.cellsOf, pairsOf, xI_nil, binBool, gcE, evOpt, tagZ, xI_block, xI_loopH, xI_condM, xI_exitM, xI_skip, xI_blk, exitA, ty2, ty3, ty24, ty81, eK102_0_0, eK102_1_2, eK102_1_1, eK102_1_0, hlt, hlt2, hnl, bs0]
    refine Eq.trans h1 ?_
    simp only [R102_1_2, b102, Tryd.f102, Option.getD, fstC, sndC, bodyC, thnC, elsC]
    simp [xI_seq, xI_region, xI_ret, regA, regOps, runOps, opStep, wantedA, opA, evo, evos, calleeA, lk, nif_eq, putE, paramsE, valS, val2, keepE, restrict, finA, resA, binA, binInt, ofConst, ofConst1, loadA, TK.isAgg, asVar, unA, builtinA, lenOpA, lenA, ileb_cast, ileb_eq, ieqb_dec, indexAddrA, inB_dec, evPairs, storeA, AV.cellsOf, pairsOf, xI_nil, binBool, gcE, evOpt, tagZ, xI_block, xI_loopH, xI_condM, xI_exitM, xI_skip, xI_blk, exitA, ty2, ty3, ty24, ty81, eK102_0_0, eK102_1_2, eK102_1_1, eK102_1_0, hw, lb1, a2]
    try rfl
theorem v102 {K : Nat} {ws : List Nat} (h : Dya K ws) : FnF TT 102 [.lst ws.length (ints (nints ws))] (.lst (K + 1) (lvA (lvls K ws (K + 1)))) := by
  have hp := pw_6 h.2.1
  have hK := h.2.1
  obtain ⟨σ', B', bs', h1, h2, h3, h4⟩ := l102_out K hK ws h.2.2.2 (fun x hx => by have := mem_sum hx; rw [h.1] at this; omega) (K + 1) 0 ((⟨[], 0⟩ : St).push ⟨slA [], 1, false⟩) 0 [] (by omega) rfl ⟨false, get_push_same, by decide, fun q hq => by cases hq⟩ rfl
  have c1 := v107 ws (by have := h.2.2.2; omega) (by rw [h.1]; omega) ⟨[], 0⟩ [.lst ws.length (ints (nints ws))] rfl
  rw [h.1] at c1
  have c2 := dg_tab hK ⟨[], 0⟩ [.int .i64 (pw K : Nat)] rfl
  have hw : wrapA .i64 ((K : Int) + 1) = ((K + 1 : Nat) : Int) := by rw [wrapA_id (by omega) (by omega)]; omega
  have hfr := h2.frz h3
  rw [h4] at hfr
  refine FnF.mk fn102 rfl md102 ⟨σ', .sl B' 0 (K + 1) (K + 1), ?_, hfr⟩
  simp only [show ((0 : Nat) : Int) = 0 from rfl] at h1
  rw [← h1, fi102]
  clear h1 hfr
  generalize pw K = P at *
  generalize ints (nints ws) = cs at *
  generalize ws.length = n at *
  generalize K + 1 = Q at *
  simp [xI_seq, xI_region, xI_ret, regA, regOps, runOps, opStep, wantedA, opA, evo, evos, calleeA, lk, nif_eq, putE, paramsE, valS, val2, keepE, restrict, finA, resA, binA, binInt, ofConst, ofConst1, loadA, TK.isAgg, asVar, unA, builtinA, lenOpA, lenA, ileb_cast, ileb_eq, ieqb_dec, indexAddrA, inB_dec, evPairs, storeA, AV.cellsOf, pairsOf, xI_nil, binBool, gcE, evOpt, tagZ, xI_block, xI_loopH, xI_condM, xI_exitM, xI_skip, xI_blk, exitA, ty2, ty3, ty24, ty81, eK102_0_0, eK102_1_2, eK102_1_1, eK102_1_0, c1, c2, hw, lb0]
  rfl

theorem v54 {K : Nat} {ws : List Nat} (h : Dya K ws) : FnF TT 54 [.lst ws.length (ints (nints ws))] (.tup [.lst (K + 1) (lvA (lvls K ws (K + 1))), .bool true]) := by
  have c1 := v55 h ⟨[], 0⟩ [.lst ws.length (ints (nints ws))] rfl
  have c2 := v102 h ⟨[], 0⟩ [.lst ws.length (ints (nints ws))] rfl rfl
  refine FnF.mk fn54 rfl md54 ⟨⟨[], 0⟩, .tup [.lst (K + 1) (lvA (lvls K ws (K + 1))), .bool true], ?_, rfl⟩
  generalize lvA (lvls K ws (K + 1)) = cs at *
  generalize K + 1 = Q at *
  generalize ws.length = n at *
  rw [fi54]
  simp [xI_seq, xI_region, xI_ret, regA, regOps, runOps, opStep, wantedA, opA, evo, evos, calleeA, lk, nif_eq, putE, paramsE, valS, val2, keepE, restrict, finA, resA, binA, binInt, ofConst, ofConst1, loadA, TK.isAgg, asVar, unA, builtinA, lenOpA, lenA, ileb_cast, ileb_eq, ieqb_dec, indexAddrA, inB_dec, evPairs, storeA, AV.cellsOf, pairsOf, xI_nil, binBool, gcE, evOpt, tagZ, xI_block, xI_loopH, xI_condM, xI_exitM, xI_skip, xI_blk, exitA, ty4, c1, c2]

noncomputable def b56 : Code := Tryd.f56.body.getD .skip
noncomputable def B56_0 : Code := (bodyC (bodyC (sndC (fstC (sndC (sndC (sndC b56)))))))
noncomputable def K56_0 : List It := .lp B56_0 :: .blk 0 :: .code (sndC (sndC (sndC (sndC b56)))) :: []
theorem xl56_0 {fi : FI} {env : Env} {σ : St} : exI TT fi K56_0 env σ = exI TT fi (.code B56_0 :: K56_0) env σ := by unfold K56_0; exact xI_lp
noncomputable def R56_0_0 : List It := .code (sndC (sndC (sndC (sndC b56)))) :: []
theorem eK56_0_0 : exitA 0 K56_0 = some R56_0_0 := rfl
/-- A roll from a node v of level d, with the levels that are left. -/
def rollF : List (List Nat) → Nat → Nat → List UInt8 → Option (Nat × Nat)
  | [], _, _, _ => none
  | l :: r, d, v, s => if v < l.length then some (l.getD v 0, d) else match s with
    | [] => none
    | x :: s' => rollF r (d + 1) (2 * (v - l.length) + (if x = 49 then 1 else 0)) s'
theorem rollF_hit {l : List Nat} {r : List (List Nat)} {d v : Nat} {s : List UInt8} (h : v < l.length) : rollF (l :: r) d v s = some (l.getD v 0, d) := by cases s <;> simp [rollF, h]
theorem rollF_end {l : List Nat} {r : List (List Nat)} {d v : Nat} (h : ¬ v < l.length) : rollF (l :: r) d v [] = none := by simp only [rollF]; rw [if_neg h]
theorem rollF_next {l : List Nat} {r : List (List Nat)} {d v : Nat} {x : UInt8} {s : List UInt8} (h : ¬ v < l.length) : rollF (l :: r) d v (x :: s) = rollF r (d + 1) (2 * (v - l.length) + (if x = 49 then 1 else 0)) s := by simp only [rollF]; rw [if_neg h]
def rollV : Option (Nat × Nat) → AV
  | some (f, d) => .tup [.int .i64 (f : Int), .int .i64 (d : Int), .bool true]
  | none => .tup [.int .i64 0, .int .i64 0, .bool false]
theorem l56 (L : List (List Nat)) (hL : L.length ≤ 7) (hl5 : ∀ l ∈ L, l.length ≤ 5) (s : List UInt8) (hs : s.length ≤ 400) (hb : s.all isBit = true) (σ : St) : ∀ (suf : List (List Nat)) (d v : Nat) (t : List UInt8), L.drop d = suf → d ≤ L.length → s.drop d = t → d ≤ s.length → v < 1000 * 2 ^ d →
    exI TT (FI.of Tryd.f56 (TT.an 56)) K56_0 [(1, .str s), (7, .int .i64 v), (19, .lst L.length (lvA L)), (20, .int .i64 L.length), (21, .int .i64 d)] σ = some (rollV (rollF suf d v t), σ) := by
  intro suf
  induction suf with
  | nil =>
    intro d v t hd hdl ht hds hv
    have : (L.drop d).length = 0 := by rw [hd]; rfl
    rw [List.length_drop] at this
    obtain rfl : d = L.length := by omega
    generalize L.length = n at *
    rw [rollF, rollV]
    rw [fi56]
    rw [xl56_0]
    simp only [B56_0, b56, Tryd.f56, Option.getD, fstC, sndC, bodyC, thnC, elsC]
    simp [xI_seq, xI_region, xI_ret, regA, regOps, runOps, opStep, wantedA, opA, evo, evos, calleeA, lk, nif_eq, putE, paramsE, valS, val2, keepE, restrict, finA, resA, binA, binInt, ofConst, ofConst1, loadA, TK.isAgg, asVar, unA, builtinA, lenOpA, lenA, ileb_cast, ileb_eq, ieqb_dec, indexAddrA, inB_dec, evPairs, storeA, AV.cellsOf, pairsOf, xI_nil, binBool, gcE, evOpt, tagZ, xI_block, xI_loopH, xI_condM, xI_exitM, xI_skip, xI_blk, exitA, ty2, ty3, ty4, ty5, ty9, ty24, ty81, eK56_0_0]
    simp only [R56_0_0, b56, Tryd.f56, Option.getD, fstC, sndC, bodyC, thnC, elsC]
    simp [xI_seq, xI_region, xI_ret, regA, regOps, runOps, opStep, wantedA, opA, evo, evos, calleeA, lk, nif_eq, putE, paramsE, valS, val2, keepE, restrict, finA, resA, binA, binInt, ofConst, ofConst1, loadA, TK.isAgg, asVar, unA, builtinA, lenOpA, lenA, ileb_cast, ileb_eq, ieqb_dec, indexAddrA, inB_dec, evPairs, storeA, AV.cellsOf, pairsOf, xI_nil, binBool, gcE, evOpt, tagZ, xI_block, xI_loopH, xI_condM, xI_exitM, xI_skip, xI_blk, exitA, ty2, ty3, ty4, ty5, ty9, ty24, ty81, eK56_0_0]
  | cons l suf ih =>
    intro d v t hd hdl ht hds hv
    obtain ⟨d1, d2, d3⟩ := dp1 hd
    have hl := hl5 l (List.mem_of_getElem? d2)
    have e2 : 2 ^ d ≤ 2 ^ 7 := Nat.pow_le_pow_right (by decide) (by omega)
    have e3 : 2 ^ (d + 1) = 2 ^ d * 2 := Nat.pow_succ 2 d
    have rd : ∀ σ : St, cellsAt σ (.lp (lvA L) d) 1 = some [.lst l.length (ints (nints l))] := fun σ => lvA_read d2
    have c1 : ∀ σ, callI TT 93 [.lst l.length (ints (nints l))] σ = some (.int .i64 l.length, σ) := fun σ => v93 (nints l) l.length σ [.lst l.length (ints (nints l))] rfl
    have hlt : (d : Int) < (L.length : Int) := by omega
    have hnl : ¬ L.length ≤ d := by omega
    have hw : wrapA .i64 ((d : Int) + 1) = (d : Int) + 1 := wrapA_id (by omega) (by omega)
    by_cases hvl : v < l.length
    · have hgv : l[v]? = some (l.getD v 0) := by simp [List.getD_eq_getElem?_getD, hvl]
      rw [rollF_hit hvl, rollV]
      generalize l.getD v 0 = face at *
      have r2 : ∀ σ : St, cellsAt σ (.lp (ints (nints l)) v) 1 = some [.int .i64 face] := fun σ => nints_read hgv
      have hvi : (v : Int) < (l.length : Int) := by omega
      have hvn : ¬ l.length ≤ v := by omega
      clear ih hd d2 d3
      generalize L.length = n at *
      generalize l.length = m at *
      rw [fi56]
      rw [xl56_0]
      simp only [B56_0, b56, Tryd.f56, Option.getD, fstC, sndC, bodyC, thnC, elsC]
      simp [xI_seq, xI_region, xI_ret, regA, regOps, runOps, opStep, wantedA, opA, evo, evos, calleeA, lk, nif_eq, putE, paramsE, valS, val2, keepE, restrict, finA, resA, binA, binInt, ofConst, ofConst1, loadA, TK.isAgg, asVar, unA, builtinA, lenOpA, lenA, ileb_cast, ileb_eq, ieqb_dec, indexAddrA, inB_dec, evPairs, storeA, AV.cellsOf, pairsOf, xI_nil, binBool, gcE, evOpt, tagZ, xI_block, xI_loopH, xI_condM, xI_exitM, xI_skip, xI_blk, exitA, ty2, ty3, ty4, ty5, ty9, ty24, ty81, eK56_0_0, runTr, pairsOk, pairOk, lstAt, lastOf, sameVal, AV.eqv, eqvs, eqvs_ints, regOps, blt_dec, cond_true, cond_false, fieldAddrA, allOne, AV.one, buildA, sizesOf, fillA, putCells, n_push, indexA, ty2, ty27, ty9, ty5, ty3, ty36, ty24, ty81, hlt, hnl, d1, rd, c1, hvi, hvl, hvn, r2]
    · have hvi : ¬ (v : Int) < (l.length : Int) := by omega
      have hvn : l.length ≤ v := by omega
      match t, ht with
      | [], ht =>
        have : (s.drop d).length = 0 := by rw [ht]; rfl
        rw [List.length_drop] at this
        obtain rfl : d = s.length := by omega
        rw [rollF_end hvl, rollV]
        clear ih hd d2 d3
        generalize L.length = n at *
        generalize l.length = m at *
        generalize hsl : s.length = sl at *
        rw [fi56]
        rw [xl56_0]
        simp only [B56_0, b56, Tryd.f56, Option.getD, fstC, sndC, bodyC, thnC, elsC]
        simp [xI_seq, xI_region, xI_ret, regA, regOps, runOps, opStep, wantedA, opA, evo, evos, calleeA, lk, nif_eq, putE, paramsE, valS, val2, keepE, restrict, finA, resA, binA, binInt, ofConst, ofConst1, loadA, TK.isAgg, asVar, unA, builtinA, lenOpA, lenA, ileb_cast, ileb_eq, ieqb_dec, indexAddrA, inB_dec, evPairs, storeA, AV.cellsOf, pairsOf, xI_nil, binBool, gcE, evOpt, tagZ, xI_block, xI_loopH, xI_condM, xI_exitM, xI_skip, xI_blk, exitA, ty2, ty3, ty4, ty5, ty9, ty24, ty81, eK56_0_0, runTr, pairsOk, pairOk, lstAt, lastOf, sameVal, AV.eqv, eqvs, eqvs_ints, regOps, blt_dec, cond_true, cond_false, fieldAddrA, allOne, AV.one, buildA, sizesOf, fillA, putCells, n_push, indexA, ty2, ty27, ty9, ty5, ty3, ty36, ty24, ty81, hlt, hnl, d1, rd, c1, hvi, hvl, hvn, hsl]
      | x :: t', ht =>
        obtain ⟨g1, g2, g3⟩ := dp1 ht
        have hxb : x = 48 ∨ x = 49 := by
          have := List.all_eq_true.1 hb x (List.mem_of_getElem? g2)
          rw [isBit] at this
          simpa using this
        obtain ⟨q, hq⟩ : ∃ q : Nat, q = if x = 49 then 1 else 0 := ⟨_, rfl⟩
        have hq1 : q ≤ 1 := by rw [hq]; split <;> omega
        have hxq : wrapA .u8 ((x.toNat : Int) - 48) = (q : Int) := by rw [hq]; rcases hxb with rfl | rfl <;> rfl
        have hqq : wrapA .i64 (q : Int) = (q : Int) := wrapA_id (by omega) (by omega)
        have h1 := ih (d + 1) (2 * (v - l.length) + q) t' d3 d1 g3 (by omega) (by omega)
        rw [rollF_next hvl, ← hq, ← h1, show ((d + 1 : Nat) : Int) = (d : Int) + 1 by omega]
        clear h1 ih hd d2 d3 hb
        have hne : ¬ (d : Int) = (s.length : Int) := by omega
        have hne2 : ¬ d = s.length := by omega
        have w1 : wrapA .i64 ((v : Int) - (l.length : Int)) = ((v - l.length : Nat) : Int) := by rw [wrapA_id (by omega) (by omega)]; omega
        have w2 : wrapA .i64 (2 * ((v - l.length : Nat) : Int)) = ((2 * (v - l.length) : Nat) : Int) := by rw [wrapA_id (by omega) (by omega)]; omega
        have w3 : wrapA .i64 (((2 * (v - l.length) : Nat) : Int) + (q : Int)) = ((2 * (v - l.length) + q : Nat) : Int) := by rw [wrapA_id (by omega) (by omega)]; omega
        generalize 2 * (v - l.length) + q = v3 at *
        generalize 2 * (v - l.length) = v2 at *
        generalize v - l.length = v1 at *
        generalize L.length = n at *
        generalize l.length = m at *
        generalize hsl : s.length = sl at *
        rw [fi56]
        conv => lhs; rw [xl56_0]
        simp only [B56_0, b56, Tryd.f56, Option.getD, fstC, sndC, bodyC, thnC, elsC]
        simp [xI_seq, xI_region, xI_ret, regA, regOps, runOps, opStep, wantedA, opA, evo, evos, calleeA, lk, nif_eq, putE, paramsE, valS, val2, keepE, restrict, finA, resA, binA, binInt, ofConst, ofConst1, loadA, TK.isAgg, asVar, unA, builtinA, lenOpA, lenA, ileb_cast, ileb_eq, ieqb_dec, indexAddrA, inB_dec, evPairs, storeA, AV.cellsOf, pairsOf, xI_nil, binBool, gcE, evOpt, tagZ, xI_block, xI_loopH, xI_condM, xI_exitM, xI_skip, xI_blk, exitA, ty2, ty3, ty4, ty5, ty9, ty24, ty81, eK56_0_0, runTr, pairsOk, pairOk, lstAt, lastOf, sameVal, AV.eqv, eqvs, eqvs_ints, regOps, blt_dec, cond_true, cond_false, fieldAddrA, allOne, AV.one, buildA, sizesOf, fillA, putCells, n_push, indexA, ty2, ty27, ty9, ty5, ty3, ty36, ty24, ty81, convA, hlt, hnl, d1, rd, c1, hvi, hvl, hvn, hsl, hne, hne2, hw, w1, w2, w3, hxq, hqq, g2]
theorem v56 {K : Nat} {ws : List Nat} (h : Dya K ws) (s : List UInt8) (hs : s.length ≤ 400) (hb : s.all isBit = true) : FnV TT 56 [.lst ws.length (ints (nints ws)), .str s] (rollV (rollF (lvls K ws (K + 1)) 0 0 s)) := by
  have hK := h.2.1
  have h1 := l56 (lvls K ws (K + 1)) (by rw [lvls_len]; omega) (fun l hl => by
    obtain ⟨d, _, rfl⟩ := List.mem_map.1 hl
    exact Nat.le_trans (lvF_len _ _ _) h.2.2.2) s hs hb ⟨[], 0⟩ (lvls K ws (K + 1)) 0 0 s rfl (Nat.zero_le _) rfl (Nat.zero_le _) (by decide)
  have c1 := v55 h ⟨[], 0⟩ [.lst ws.length (ints (nints ws))] rfl
  have c2 := v102 h ⟨[], 0⟩ [.lst ws.length (ints (nints ws))] rfl rfl
  have c3 := c63 s (by omega) ⟨[], 0⟩
  rw [show isBits s = true by simp [isBits, hs, hb]] at c3
  rw [lvls_len] at h1
  refine FnV.mk fn56 rfl md56 ⟨⟨[], 0⟩, ?_⟩ (fun _ => by cases rollF (lvls K ws (K + 1)) 0 0 s <;> rfl) (by cases rollF (lvls K ws (K + 1)) 0 0 s <;> rfl)
  rw [← h1, show ((0 : Nat) : Int) = 0 from rfl, fi56]
  clear h1
  generalize lvA (lvls K ws (K + 1)) = cs at *
  generalize K + 1 = Q at *
  generalize ws.length = n at *
  simp [xI_seq, xI_region, xI_ret, regA, regOps, runOps, opStep, wantedA, opA, evo, evos, calleeA, lk, nif_eq, putE, paramsE, valS, val2, keepE, restrict, finA, resA, binA, binInt, ofConst, ofConst1, loadA, TK.isAgg, asVar, unA, builtinA, lenOpA, lenA, ileb_cast, ileb_eq, ieqb_dec, indexAddrA, inB_dec, evPairs, storeA, AV.cellsOf, pairsOf, xI_nil, binBool, gcE, evOpt, tagZ, xI_block, xI_loopH, xI_condM, xI_exitM, xI_skip, xI_blk, exitA, ty2, ty3, ty4, ty5, ty9, ty24, ty81, eK56_0_0, c1, c2, c3]
  rfl

end Go.Proofs.YthkdbkjkccogfaaDoor
